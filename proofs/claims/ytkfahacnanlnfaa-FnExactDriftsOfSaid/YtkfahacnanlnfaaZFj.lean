/- Walks: the program's renewal: the root. -/
/- Walks: the program's renewal. -/
/- The program's renewal: what it is. -/
import Derived.Test.YtkfahacnanlnfaaZFg
namespace Go.Proofs.Ytkfahacnanlnfaa
open Go.RowKit Ieee
attribute [local go_sem ↓] Go.wp_at_zero Go.wp_at_succ

theorem normSquare_walk (B : Nat) (q : Int) (a b c d v : Nat) (w : World) (h : CalcAt w B q) (x y : Nat) (k1 : ∀ w, CalcAt w B q → Calls Try.prog 146 #[.pointer (some ⟨B, 0, none⟩), .complex .f32 a b] w (CalcPost B q x w))
    (k2 : ∀ w, CalcAt w B q → Calls Try.prog 146 #[.pointer (some ⟨B, 0, none⟩), .complex .f32 c d] w (CalcPost B q y w)) (k3 : ∀ w, CalcAt w B q → Calls Try.prog 55 #[.pointer (some ⟨B, 0, none⟩), .float .f32 x, .float .f32 y] w (CalcPost B q v w)) :
    Calls Try.prog 127 #[.pointer (some ⟨B, 0, none⟩), .agg #[.complex .f32 a b, .complex .f32 c d]] w (CalcPost B q v w) := by
  have K1 := Lib.hid k1; have K2 := Lib.hid k2; have K3 := Lib.hid k3
  clear k1 k2 k3
  have hB := h.lt
  have X := row2_new w (.complex .f32 a b) (.complex .f32 c d) 101
  have b0 : Below w.heap.size w (w.alloc (.cells #[.complex .f32 a b, .complex .f32 c d] 101)) := (Below.refl _ _).alloc (Nat.le_refl _) _
  have HC := Lib.hid (h.below b0 h.lt); clear h
  have HG := Lib.hid (toGrown b0 (some B))
  have X0 := Lib.hid X
  clear X b0
  go_enter Try.func127, Try.ntmps127
  go_wp2_with fail
  refine (K1.out _ HC.out).mono ?_
  rintro e w1 ⟨rfl, hc, hg⟩
  have C1 := Lib.hid hc
  have G1 := Lib.hid (HG.out.trans hg)
  have X1 := X0.out.keep (hg.block w.heap.size (by simp) (fun e => by have := Option.some.inj e; omega))
  obtain ⟨c0, c1⟩ := X1.cells
  clear X1 hc hg HC HG X0
  go_wp2_with fail
  refine (K2.out _ C1.out).mono ?_
  rintro e w2 ⟨rfl, hc, hg⟩
  have C2 := Lib.hid hc
  have G2 := Lib.hid (G1.out.trans hg)
  clear hc hg C1 G1 c0 c1
  go_wp2_with fail
  refine (K3.out _ C2.out).mono ?_
  rintro e w3 ⟨rfl, hc, hg⟩
  go_wp2
  go_ret
  exact ⟨rfl, hc, G2.out.trans hg⟩
theorem rowSquare_walk (B : Nat) (q : Int) (a b c d e f g k v : Nat) (w : World) (h : CalcAt w B q) (k1 : ∀ w, CalcAt w B q → Calls Try.prog 127 #[.pointer (some ⟨B, 0, none⟩), .agg #[.complex .f32 a b, .complex .f32 c d]] w (CalcPost B q v w)) :
    Calls Try.prog 97 #[.pointer (some ⟨B, 0, none⟩), .agg #[.complex .f32 a b, .complex .f32 c d, .complex .f32 e f, .complex .f32 g k]] w (CalcPost B q v w) := by
  have K1 := Lib.hid k1
  clear k1
  have X := row4_new w (.complex .f32 a b) (.complex .f32 c d) (.complex .f32 e f) (.complex .f32 g k) 51
  have b0 : Below w.heap.size w (w.alloc (.cells #[.complex .f32 a b, .complex .f32 c d, .complex .f32 e f, .complex .f32 g k] 51)) := (Below.refl _ _).alloc (Nat.le_refl _) _
  have HC := Lib.hid (h.below b0 h.lt); clear h
  have HG := Lib.hid (toGrown b0 (some B))
  obtain ⟨c0, c1, c2, c3⟩ := X.cells
  clear X b0
  go_enter Try.func97, Try.ntmps97
  go_wp2_with fail
  refine (K1.out _ HC.out).mono ?_
  rintro e w1 ⟨rfl, hc, hg⟩
  go_wp2
  go_ret
  exact ⟨rfl, hc, HG.out.trans hg⟩
/-- The square of a told table's row. -/
theorem rowSquare_any {K : Int} (B : Nat) (q : Int) (t : T8) (w : World) (h : CalcAt w B q) (ht : limT K t) (h1 : -74 ≤ K) (h2 : K ≤ 62) :
    Calls Try.prog 97 #[.pointer (some ⟨B, 0, none⟩), .agg #[.complex .f32 (fz q t.a) (fz q t.b), .complex .f32 (fz q t.c) (fz q t.d), .complex .f32 (fz q t.e) (fz q t.f), .complex .f32 (fz q t.g) (fz q t.h)]] w (CalcPost B q (fz q (rq t.a t.b t.c t.d)) w) := by
  have hl := fzT_lim (q := q) ht
  obtain ⟨r1, l1⟩ := sq_run hl.1 h1 h2
  obtain ⟨r2, l2⟩ := sq_run hl.2.1 h1 h2
  dsimp only [fzT] at r1 l1 r2 l2
  have la := lim_add (lim_fz (q := q) l1) (lim_fz (q := q) l2) (by omega) (by omega)
  have e : fz q (op32 .add (fz q (exV (fz q t.a) (fz q t.a) (fz q t.b) (fz q t.b))) (fz q (exV (fz q t.c) (fz q t.c) (fz q t.d) (fz q t.d)))) = fz q (rq t.a t.b t.c t.d) := by
    by_cases hq : q = 0
    · subst hq
      simp only [fz0]
      obtain ⟨_, m1⟩ := sq_run ht.1 h1 h2
      obtain ⟨_, m2⟩ := sq_run ht.2.1 h1 h2
      have k1 := ex_lk (M := K + K) ht.1.1 ht.1.1 ht.1.2 ht.1.2 (by omega) (by omega) (by omega) (by omega) (by omega) (lk_cz ht.1.1.fin) (lk_cz ht.1.1.fin) (lk_cz ht.1.2.fin) (lk_cz ht.1.2.fin)
      have k2 := ex_lk (M := K + K) ht.2.1.1 ht.2.1.1 ht.2.1.2 ht.2.1.2 (by omega) (by omega) (by omega) (by omega) (by omega) (lk_cz ht.2.1.1.fin) (lk_cz ht.2.1.1.fin) (lk_cz ht.2.1.2.fin) (lk_cz ht.2.1.2.fin)
      rw [← k1.cz, ← k2.cz]
      exact ((op32_lk (lk_cz m1.fin) (lk_cz m2.fin) m1 m2).1.cz).symm
    · simp only [fz_not hq]
  rw [← e]
  have hl1 := hl.1
  have hl2 := hl.2.1
  dsimp only [fzT] at hl1 hl2
  exact rowSquare_walk B q _ _ _ _ _ _ _ _ _ w h (fun w hw => normSquare_walk B q _ _ _ _ _ w hw _ _ (fun w hw => square_any B q _ _ w hw hl1.1.fin hl1.2.fin r1 l1.fin) (fun w hw => square_any B q _ _ w hw hl2.1.fin hl2.2.fin r2 l2.fin)
    (fun w hw => addF_any B q _ _ w hw (lim_fz l1).fin (lim_fz l2).fin la.1.fin))
/-- The root of a told number that is not below 0. -/
theorem rootF_any (B : Nat) (q : Int) (x : Nat) (w : World) (h : CalcAt w B q) (hx : (q ≠ 0 ∨ zr single x) ∨ ∃ m e, single.read x = .number false m e ∧ m ≠ 0) :
    Calls Try.prog 50 #[.pointer (some ⟨B, 0, none⟩), .float .f32 (fz q x)] w (CalcPost B q (fz q (root0 x)) w) := by
  by_cases hq : q = 0
  · subst hq
    rcases hx with (h0 | ⟨s, hz⟩) | ⟨m, e, hr, hm⟩
    · exact absurd rfl h0
    · have e0 : fz 0 x = 0 := by rw [fz0]; unfold cz; rw [hz]; rfl
      have e1 : root0 x = 0 := by unfold root0; rw [hz]; cases s <;> rfl
      rw [e0, e1]
      exact (calcRoot_zero B 0 w h).mono fun e w' hp => calc_fz fin_zero hp
    · have e0 : fz 0 x = x := by
        rw [fz0]; unfold cz; rw [hr]
        cases m with
        | zero => exact absurd rfl hm
        | succ m => rfl
      rw [e0, root0_pos hr hm]
      have hf : fin32 (rtv x) = true := by
        obtain ⟨m', e', h5, _⟩ := rtv_read hr hm
        exact fin_iff.2 ⟨_, _, _, h5⟩
      exact (calcRoot_pos B 0 x m e w h hr hm).mono fun e w' hp => calc_fz hf hp
  · rw [fz_not hq, fz_not hq]
    refine (calcRoot_zero B q w h).mono fun e w' hp => ?_
    have := calc_fz fin_zero hp
    rw [fz_not hq] at this; exact this
theorem parted_walk (B : Nat) (q : Int) (a b n x y : Nat) (w : World) (h : CalcAt w B q) (k1 : ∀ w, CalcAt w B q → Calls Try.prog 54 #[.pointer (some ⟨B, 0, none⟩), .float .f32 a, .float .f32 n] w (CalcPost B q x w))
    (k2 : ∀ w, CalcAt w B q → Calls Try.prog 54 #[.pointer (some ⟨B, 0, none⟩), .float .f32 b, .float .f32 n] w (CalcPost B q y w)) : Calls Try.prog 117 #[.pointer (some ⟨B, 0, none⟩), .complex .f32 a b, .float .f32 n] w (CalcZ B q x y w) := by
  have K1 := Lib.hid k1; have K2 := Lib.hid k2
  clear k1 k2
  have HC := Lib.hid h; clear h
  go_enter Try.func117, Try.ntmps117
  go_wp2_with fail
  refine (K1.out _ HC.out).mono ?_
  rintro e w1 ⟨rfl, hc, hg⟩
  have C1 := Lib.hid hc
  have G1 := Lib.hid hg
  clear hc hg
  go_wp2_with fail
  refine (K2.out _ C1.out).mono ?_
  rintro e w2 ⟨rfl, hc, hg⟩
  go_wp2
  go_ret
  exact ⟨rfl, hc, G1.out.trans hg⟩
end Go.Proofs.Ytkfahacnanlnfaa
namespace Go.Proofs.Ytkfahacnanlnfaa
open Go.RowKit Ieee
attribute [local go_sem ↓] Go.wp_at_zero Go.wp_at_succ

theorem AdjI.call' {w w' w2 : World} {B : Nat} {q q' : Int} {v0 v1 v2 v3 : Value} (h : AdjI w B q v0 v1 v2 v3 w') (hc : CalcAt w2 B q') (hg : w'.grownBy w2 (some B)) : AdjI w B q' v0 v1 v2 v3 w2 := by
  have hB := h.hB
  exact ⟨h.rx.grown hg (by omega), h.rr.grown hg (by omega), hB, hc, h.hg.trans hg⟩
set_option maxRecDepth 100000 in
set_option maxHeartbeats 4000000 in
theorem renew_walk (B : Nat) (q q' : Int) (a b c d e f g k v n A B' C D C1 D1 E F G H : Nat) (w : World) (h : CalcAt w B q)
    (k1 : ∀ w, CalcAt w B q → Calls Try.prog 97 #[.pointer (some ⟨B, 0, none⟩), .agg #[.complex .f32 a b, .complex .f32 c d, .complex .f32 e f, .complex .f32 g k]] w (CalcPost B q v w))
    (k2 : ∀ w, CalcAt w B q → Calls Try.prog 50 #[.pointer (some ⟨B, 0, none⟩), .float .f32 v] w (CalcPost B q n w))
    (hn : ((FloatKind.f32.format.order n 0 == some .eq) = false ∧ q' = q) ∨ ((FloatKind.f32.format.order n 0 == some .eq) = true ∧ q' = failed q 5))
    (k3 : ∀ w, CalcAt w B q' → Calls Try.prog 117 #[.pointer (some ⟨B, 0, none⟩), .complex .f32 a b, .float .f32 n] w (CalcZ B q' A B' w))
    (k4 : ∀ w, CalcAt w B q' → Calls Try.prog 117 #[.pointer (some ⟨B, 0, none⟩), .complex .f32 c d, .float .f32 n] w (CalcZ B q' C D w))
    (k5 : ∀ w, CalcAt w B q' → Calls Try.prog 119 #[.pointer (some ⟨B, 0, none⟩), .complex .f32 C D] w (CalcZ B q' C1 D1 w))
    (k6 : ∀ w, CalcAt w B q' → Calls Try.prog 118 #[.pointer (some ⟨B, 0, none⟩), .complex .f32 C1 D1] w (CalcZ B q' E F w))
    (k7 : ∀ w, CalcAt w B q' → Calls Try.prog 119 #[.pointer (some ⟨B, 0, none⟩), .complex .f32 A B'] w (CalcZ B q' G H w)) :
    Calls Try.prog 92 #[.pointer (some ⟨B, 0, none⟩), .agg #[.complex .f32 a b, .complex .f32 c d, .complex .f32 e f, .complex .f32 g k]] w fun e' w' =>
      e' = .returned (.agg #[.complex .f32 A B', .complex .f32 C D, .complex .f32 E F, .complex .f32 G H]) ∧ CalcAt w' B q' ∧ w.grownBy w' (some B) := by
  have K1 := Lib.hid k1; have K2 := Lib.hid k2; have K3 := Lib.hid k3; have K4 := Lib.hid k4; have K5 := Lib.hid k5; have K6 := Lib.hid k6; have K7 := Lib.hid k7
  clear k1 k2 k3 k4 k5 k6 k7
  have KF := Lib.hid (fun w hw => fail_any B q 5 w hw)
  have T0 := Lib.hid (AdjI.start w B q (.complex .f32 a b) (.complex .f32 c d) (.complex .f32 e f) (.complex .f32 g k) h)
  clear h
  unfold CalcZ at *
  have fin_part : ∀ (w0 : World), AdjI w B q' (.complex .f32 a b) (.complex .f32 c d) (.complex .f32 e f) (.complex .f32 g k) w0 → True := fun _ _ => trivial
  clear fin_part
  go_enter Try.func92, Try.ntmps92
  go_wp2_with fail
  generalize (w.alloc (.cells #[.complex .f32 a b, .complex .f32 c d, .complex .f32 e f, .complex .f32 g k] 51)).alloc (.cells #[.complex .f32 0 0, .complex .f32 0 0, .complex .f32 0 0, .complex .f32 0 0] 51) = w0 at T0 ⊢
  refine (K1.out _ T0.out.hc).mono ?_
  rintro e' w1 ⟨rfl, hc, hg⟩
  have T1 := Lib.hid (T0.out.call hc hg); clear hc hg T0
  go_wp2_with fail
  refine (K2.out _ T1.out.hc).mono ?_
  rintro e' w2 ⟨rfl, hc, hg⟩
  have T2 := Lib.hid (T1.out.call hc hg); clear hc hg T1
  rcases hn with ⟨hn, rfl⟩ | ⟨hn, hq⟩
  · obtain ⟨c0, c1, c2, c3⟩ := T2.out.rx.cells
    go_wp2_with fail
    go_region_held3 (fun w' => w'.cell? ⟨w.heap.size, 0, none⟩ = some (.complex .f32 a b) ∧ w'.cell? ⟨w.heap.size, 1, none⟩ = some (.complex .f32 c d)) (go_keep)
      (first
        | (go_at_call_of 117 (Value.complex FloatKind.f32 a b); refine (K3.out _ T2.out.drew.hc).mono ?_; rintro e' w3 ⟨rfl, hc, hg⟩; have T3 := Lib.hid (T2.out.drew.call hc hg); clear hc hg; obtain ⟨x0, x1, x2, x3⟩ := T3.out.rx.cells)
        | (go_at_call_of 117 (Value.complex FloatKind.f32 c d); refine (K4.out _ T3.out.hc).mono ?_; rintro e' w4 ⟨rfl, hc, hg⟩; have T4 := Lib.hid (T3.out.call hc hg); clear hc hg; obtain ⟨x0, x1, x2, x3⟩ := T4.out.rx.cells))
    all_goals
      clear T2 T3 c0 c1 c2 c3
      go_wp2_with fail
      refine (K5.out _ T4.out.hc).mono ?_
      rintro e' w5 ⟨rfl, hc, hg⟩
      have T5 := Lib.hid (T4.out.call hc hg); clear hc hg T4
      go_wp2_with fail
      refine (K6.out _ T5.out.hc).mono ?_
      rintro e' w6 ⟨rfl, hc, hg⟩
      have T6 := Lib.hid (T5.out.call hc hg); clear hc hg T5
      go_wp2_with fail
      refine (K7.out _ T6.out.hc).mono ?_
      rintro e' w7 ⟨rfl, hc, hg⟩
      have T7 := Lib.hid (T6.out.call hc hg); clear hc hg T6
      obtain ⟨y0, y1, y2, y3⟩ := T7.out.rr.cells
      have g0 := T7.out.rr.frozen 0
      have g1 := T7.out.rr.frozen 1
      have g2 := T7.out.rr.frozen 2
      have g3 := T7.out.rr.frozen 3
      have hB := T7.out.hB
      go_wp2
      obtain ⟨k0, k1, k2, k3⟩ := (T7.out.rr.put (.complex .f32 A B') (.complex .f32 C D) (.complex .f32 E F) (.complex .f32 G H)).cells
      refine bodyPost_ret (v := .agg #[.complex .f32 A B', .complex .f32 C D, .complex .f32 E F, .complex .f32 G H]) (by simp [results, Try.results92, go_sem, k0, k1, k2, k3]) rfl ?_
      exact ⟨rfl, high4 T7.out.hc T7.out.hg (by omega) (by omega) _ _ _ _⟩
  · rw [← hq] at KF
    go_wp2_with fail
    refine (KF.out _ T2.out.hc).mono ?_
    rintro e' w2' ⟨rfl, hc, hg⟩
    have T2' := Lib.hid (T2.out.call' hc hg); clear hc hg T2
    obtain ⟨c0, c1, c2, c3⟩ := T2'.out.rx.cells
    go_wp2_with fail
    go_region_held3 (fun w' => w'.cell? ⟨w.heap.size, 0, none⟩ = some (.complex .f32 a b) ∧ w'.cell? ⟨w.heap.size, 1, none⟩ = some (.complex .f32 c d)) (go_keep)
      (first
        | (go_at_call_of 117 (Value.complex FloatKind.f32 a b); refine (K3.out _ T2'.out.drew.hc).mono ?_; rintro e' w3 ⟨rfl, hc, hg⟩; have T3 := Lib.hid (T2'.out.drew.call hc hg); clear hc hg; obtain ⟨x0, x1, x2, x3⟩ := T3.out.rx.cells)
        | (go_at_call_of 117 (Value.complex FloatKind.f32 c d); refine (K4.out _ T3.out.hc).mono ?_; rintro e' w4 ⟨rfl, hc, hg⟩; have T4 := Lib.hid (T3.out.call hc hg); clear hc hg; obtain ⟨x0, x1, x2, x3⟩ := T4.out.rx.cells))
    all_goals
      clear T2' T3 c0 c1 c2 c3
      go_wp2_with fail
      refine (K5.out _ T4.out.hc).mono ?_
      rintro e' w5 ⟨rfl, hc, hg⟩
      have T5 := Lib.hid (T4.out.call hc hg); clear hc hg T4
      go_wp2_with fail
      refine (K6.out _ T5.out.hc).mono ?_
      rintro e' w6 ⟨rfl, hc, hg⟩
      have T6 := Lib.hid (T5.out.call hc hg); clear hc hg T5
      go_wp2_with fail
      refine (K7.out _ T6.out.hc).mono ?_
      rintro e' w7 ⟨rfl, hc, hg⟩
      have T7 := Lib.hid (T6.out.call hc hg); clear hc hg T6
      obtain ⟨y0, y1, y2, y3⟩ := T7.out.rr.cells
      have g0 := T7.out.rr.frozen 0
      have g1 := T7.out.rr.frozen 1
      have g2 := T7.out.rr.frozen 2
      have g3 := T7.out.rr.frozen 3
      have hB := T7.out.hB
      go_wp2
      obtain ⟨k0, k1, k2, k3⟩ := (T7.out.rr.put (.complex .f32 A B') (.complex .f32 C D) (.complex .f32 E F) (.complex .f32 G H)).cells
      refine bodyPost_ret (v := .agg #[.complex .f32 A B', .complex .f32 C D, .complex .f32 E F, .complex .f32 G H]) (by simp [results, Try.results92, go_sem, k0, k1, k2, k3]) rfl ?_
      exact ⟨rfl, high4 T7.out.hc T7.out.hg (by omega) (by omega) _ _ _ _⟩
end Go.Proofs.Ytkfahacnanlnfaa
namespace Go.Proofs.Ytkfahacnanlnfaa
open Go.RowKit Ieee

/-- The code behind a renewal. -/
def renC (q : Int) (t : T8) : Int := if deadT t then failed q 5 else q
theorem cnegF_any (B : Nat) (q : Int) (a b : Nat) (w : World) (h : CalcAt w B q) (fa : fin32 a = true) (fb : fin32 b = true) : Calls Try.prog 118 #[.pointer (some ⟨B, 0, none⟩), .complex .f32 (fz q a) (fz q b)] w (CalcZ B q (fz q (ng a)) (fz q (ng b)) w) := by
  have := cneg_any B q (fz q a) (fz q b) w h (fin_ng (fin_fz fa)) (fin_ng (fin_fz fb))
  rw [fz_ng fa, fz_ng fb] at this; exact this
theorem part_cz {n x : Nat} (h : PartOk n x) (fx : fin32 x = true) : floatBits .quo .f32 (cz x) n = some (op32 .quo (cz x) n) ∧ fin32 (op32 .quo (cz x) n) = true ∧ cz (op32 .quo (cz x) n) = cz (op32 .quo x n) := by
  obtain ⟨h1, h2, h3⟩ := h
  obtain ⟨h4, h5⟩ := h3 (cz x) (lk_cz fx)
  exact ⟨h4, (h5.lim h2).fin, h5.cz.symm⟩
theorem renewTurn_any {K : Int} (B : Nat) (q : Int) (t : T8) (w : World) (h : CalcAt w B q) (ht : limT K t) (h1 : -74 ≤ K) (h2 : K ≤ 62) :
    Calls Try.prog 92 #[.pointer (some ⟨B, 0, none⟩), (fzT q t).val] w (CalcT B (if q = 0 then renC q t else q) (fzT (if q = 0 then renC q t else q) (renT t)) w) := by
  have KR := fun w hw => rowSquare_any (w := w) B q t hw ht h1 h2
  obtain ⟨lq, hc⟩ := renew_parts ht.1 ht.2.1 h1 h2
  -- the way with a root of 0, or behind a failure
  have dead : ∀ q' : Int, q' ≠ 0 → q' = failed q 5 → fz q (root0 (rq t.a t.b t.c t.d)) = 0 → ((q ≠ 0 ∨ zr single (rq t.a t.b t.c t.d)) ∨ ∃ m e, single.read (rq t.a t.b t.c t.d) = .number false m e ∧ m ≠ 0) →
      Calls Try.prog 92 #[.pointer (some ⟨B, 0, none⟩), (fzT q t).val] w (CalcT B q' (fzT q' (renT t)) w) := by
    intro q' hq' hf hz hroot
    have K2 := fun w hw => rootF_any B q (rq t.a t.b t.c t.d) w hw hroot
    rw [hz] at K2
    rw [fzT_not hq']
    have e0 : fz q' 0 = 0 := fz_not hq' 0
    have e1 : fz q' (ng 0) = 0 := fz_not hq' _
    have o0 : (FloatKind.f32.format.order 0 0 == some .eq) = true := by decide +kernel
    have kc : ∀ w, CalcAt w B q' → Calls Try.prog 119 #[.pointer (some ⟨B, 0, none⟩), .complex .f32 0 0] w (CalcZ B q' 0 0 w) := fun w hw => by
      have := conj_any B q' 0 0 w hw fin_zero (fin_ng fin_zero)
      rw [e0, e1] at this; exact this
    have kn : ∀ w, CalcAt w B q' → Calls Try.prog 118 #[.pointer (some ⟨B, 0, none⟩), .complex .f32 0 0] w (CalcZ B q' 0 0 w) := fun w hw => by
      have := cneg_any B q' 0 0 w hw (fin_ng fin_zero) (fin_ng fin_zero)
      rw [e1] at this; exact this
    exact renew_walk B q q' _ _ _ _ _ _ _ _ (fz q (rq t.a t.b t.c t.d)) 0 0 0 0 0 0 0 0 0 0 0 w h KR K2 (.inr ⟨o0, hf⟩)
      (fun w hw => parted_walk B q' _ _ 0 0 0 w hw (fun w hw => divZ_any B q' _ 0 w hw o0) (fun w hw => divZ_any B q' _ 0 w hw o0))
      (fun w hw => parted_walk B q' _ _ 0 0 0 w hw (fun w hw => divZ_any B q' _ 0 w hw o0) (fun w hw => divZ_any B q' _ 0 w hw o0)) kc kn kc
  by_cases hq : q = 0
  · subst hq
    rw [if_pos rfl]
    rcases hc with ⟨h0, zq⟩ | ⟨h0, hq1, p1, p2, p3, p4⟩
    · have hd : deadT t = true := by unfold deadT; rw [h0]; rfl
      have hr : renC 0 t = 5 := by unfold renC; rw [hd]; rfl
      rw [hr]
      exact dead 5 (by decide) rfl (by rw [h0, fz0]; exact cz_zero') (.inl (.inr zq))
    · obtain ⟨m, e, hr1, hr2⟩ := hq1
      obtain ⟨b0, o0⟩ := rtv_ne hr1 hr2
      have hd : deadT t = false := by unfold deadT; rw [h0]; exact b0
      have hr : renC 0 t = 0 := by unfold renC; rw [hd]; rfl
      rw [hr]
      have K2 := fun w hw => rootF_any B 0 (rq t.a t.b t.c t.d) w hw (.inr ⟨m, e, hr1, hr2⟩)
      have hz : fz 0 (root0 (rq t.a t.b t.c t.d)) = rtv (rq t.a t.b t.c t.d) := by
        rw [fz0, cz_root0 _ lq.fin, h0]
      rw [hz] at K2
      obtain ⟨a1, a2, a3⟩ := part_cz p1 ht.1.1.fin
      obtain ⟨b1, b2, b3⟩ := part_cz p2 ht.1.2.fin
      obtain ⟨c1, c2, c3⟩ := part_cz p3 ht.2.1.1.fin
      obtain ⟨d1, d2, d3⟩ := part_cz p4 ht.2.1.2.fin
      have fA := p1.2.1.fin
      have fB := p2.2.1.fin
      have fC := p3.2.1.fin
      have fD := p4.2.1.fin
      refine renew_walk B 0 0 _ _ _ _ _ _ _ _ (fz 0 (rq t.a t.b t.c t.d)) (rtv (rq t.a t.b t.c t.d)) _ _ _ _ (fz 0 (op32 .quo t.c (rtv (rq t.a t.b t.c t.d)))) (fz 0 (ng (op32 .quo t.d (rtv (rq t.a t.b t.c t.d))))) _ _ _ _ w h KR K2 (.inl ⟨o0, rfl⟩) ?_ ?_ ?_ ?_ ?_
      · intro w hw
        refine parted_walk B 0 _ _ _ _ _ w hw (fun w hw => ?_) (fun w hw => ?_)
        · have := divG_any B 0 _ _ _ w hw o0 a1 a2
          rw [fz0, a3, ← fz0] at this
          dsimp only [fzT, renT] at this ⊢
          rw [fz0 t.a]; exact this
        · have := divG_any B 0 _ _ _ w hw o0 b1 b2
          rw [fz0, b3, ← fz0] at this
          dsimp only [fzT, renT] at this ⊢
          rw [fz0 t.b]; exact this
      · intro w hw
        refine parted_walk B 0 _ _ _ _ _ w hw (fun w hw => ?_) (fun w hw => ?_)
        · have := divG_any B 0 _ _ _ w hw o0 c1 c2
          rw [fz0, c3, ← fz0] at this
          dsimp only [fzT, renT] at this ⊢
          rw [fz0 t.c]; exact this
        · have := divG_any B 0 _ _ _ w hw o0 d1 d2
          rw [fz0, d3, ← fz0] at this
          dsimp only [fzT, renT] at this ⊢
          rw [fz0 t.d]; exact this
      · intro w hw
        exact conjF_any B 0 _ _ w hw fC fD
      · intro w hw
        exact cnegF_any B 0 _ _ w hw fC (fin_ng fD)
      · intro w hw
        exact conjF_any B 0 _ _ w hw fA fB
  · rw [if_neg hq]
    have hf : q = failed q 5 := by unfold failed; rw [if_neg hq]
    exact dead q hq hf (fz_not hq _) (.inl (.inl hq))
end Go.Proofs.Ytkfahacnanlnfaa
