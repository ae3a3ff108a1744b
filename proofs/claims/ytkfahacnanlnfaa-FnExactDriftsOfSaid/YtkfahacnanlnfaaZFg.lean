/- Walks: the program's tables of pulses. -/
/- Walks: the program's tables of pulses; its unit. -/
import Derived.Test.YtkfahacnanlnfaaZFe
namespace Go.Proofs.Ytkfahacnanlnfaa
open Go.RowKit Ieee
attribute [local go_sem ↓] Go.wp_at_zero Go.wp_at_succ

/-- What lies there while the program makes an adjoint. -/
structure AdjI (w : World) (B : Nat) (q : Int) (v0 v1 v2 v3 : Value) (w' : World) : Prop where
  rx : Row4 w' w.heap.size v0 v1 v2 v3
  rr : Row4 w' (w.heap.size + 1) (.complex .f32 0 0) (.complex .f32 0 0) (.complex .f32 0 0) (.complex .f32 0 0)
  hB : B < w.heap.size
  hc : CalcAt w' B q
  hg : w.grownBy w' (some B)
theorem AdjI.start (w : World) (B : Nat) (q : Int) (v0 v1 v2 v3 : Value) (h : CalcAt w B q) : AdjI w B q v0 v1 v2 v3 ((w.alloc (.cells #[v0, v1, v2, v3] 51)).alloc (.cells #[.complex .f32 0 0, .complex .f32 0 0, .complex .f32 0 0, .complex .f32 0 0] 51)) := by
  have b0 : Below w.heap.size w ((w.alloc (.cells #[v0, v1, v2, v3] 51)).alloc (.cells #[.complex .f32 0 0, .complex .f32 0 0, .complex .f32 0 0, .complex .f32 0 0] 51)) := ((Below.refl _ _).alloc (Nat.le_refl _) _).alloc (by simp) _
  have X := row4_new (w.alloc (.cells #[v0, v1, v2, v3] 51)) (.complex .f32 0 0) (.complex .f32 0 0) (.complex .f32 0 0) (.complex .f32 0 0) 51
  simp only [World.size_alloc] at X
  exact ⟨(row4_new w v0 v1 v2 v3 51).alloc _, X, h.lt, h.below b0 h.lt, toGrown b0 _⟩
section
variable {w w' w2 : World} {B : Nat} {q : Int} {v0 v1 v2 v3 : Value}
theorem AdjI.drew (h : AdjI w B q v0 v1 v2 v3 w') : AdjI w B q v0 v1 v2 v3 w'.drew :=
  ⟨h.rx, h.rr, h.hB, h.hc, ⟨h.hg.os, h.hg.tape, h.hg.output, h.hg.size, h.hg.block⟩⟩
theorem AdjI.call (h : AdjI w B q v0 v1 v2 v3 w') (hc : CalcAt w2 B q) (hg : w'.grownBy w2 (some B)) : AdjI w B q v0 v1 v2 v3 w2 := by
  have hB := h.hB
  exact ⟨h.rx.grown hg (by omega), h.rr.grown hg (by omega), hB, hc, h.hg.trans hg⟩
end
set_option maxRecDepth 100000 in
set_option maxHeartbeats 4000000 in
theorem adjoint_walk (B : Nat) (q : Int) (t u : T8) (w : World) (h : CalcAt w B q) (k0 : ∀ w, CalcAt w B q → Calls Try.prog 119 #[.pointer (some ⟨B, 0, none⟩), .complex .f32 t.a t.b] w (CalcZ B q u.a u.b w))
    (k1 : ∀ w, CalcAt w B q → Calls Try.prog 119 #[.pointer (some ⟨B, 0, none⟩), .complex .f32 t.e t.f] w (CalcZ B q u.c u.d w)) (k2 : ∀ w, CalcAt w B q → Calls Try.prog 119 #[.pointer (some ⟨B, 0, none⟩), .complex .f32 t.c t.d] w (CalcZ B q u.e u.f w))
    (k3 : ∀ w, CalcAt w B q → Calls Try.prog 119 #[.pointer (some ⟨B, 0, none⟩), .complex .f32 t.g t.h] w (CalcZ B q u.g u.h w)) :
    Calls Try.prog 116 #[.pointer (some ⟨B, 0, none⟩), t.val] w (CalcT B q u w) := by
  obtain ⟨a, b, c, d, e, f, g, k⟩ := t
  obtain ⟨u0, u1, u2, u3, u4, u5, u6, u7⟩ := u
  have E0 := Lib.hid k0; have E1 := Lib.hid k1; have E2 := Lib.hid k2; have E3 := Lib.hid k3
  clear k0 k1 k2 k3
  have T0 := Lib.hid (AdjI.start w B q (.complex .f32 a b) (.complex .f32 c d) (.complex .f32 e f) (.complex .f32 g k) h)
  clear h
  unfold CalcZ at *
  unfold CalcT T8.val quad
  dsimp only at *
  go_enter Try.func116, Try.ntmps116
  go_wp2_with fail
  generalize (w.alloc (.cells #[.complex .f32 a b, .complex .f32 c d, .complex .f32 e f, .complex .f32 g k] 51)).alloc (.cells #[.complex .f32 0 0, .complex .f32 0 0, .complex .f32 0 0, .complex .f32 0 0] 51) = w0 at T0 ⊢
  obtain ⟨c0, c1, c2, c3⟩ := T0.out.rx.cells
  go_region_held3 (fun w' => w'.cell? ⟨w.heap.size, 0, none⟩ = some (.complex .f32 a b) ∧ w'.cell? ⟨w.heap.size, 1, none⟩ = some (.complex .f32 c d) ∧ w'.cell? ⟨w.heap.size, 2, none⟩ = some (.complex .f32 e f) ∧ w'.cell? ⟨w.heap.size, 3, none⟩ = some (.complex .f32 g k)) (go_keep)
    (first
      | (go_at_call_of 119 (Value.complex FloatKind.f32 a b); refine (E0.out _ T0.out.drew.hc).mono ?_; rintro e' w1 ⟨rfl, hc, hg⟩; have T1 := Lib.hid (T0.out.drew.call hc hg); clear hc hg; obtain ⟨x0, x1, x2, x3⟩ := T1.out.rx.cells)
      | (go_at_call_of 119 (Value.complex FloatKind.f32 e f); refine (E1.out _ T1.out.hc).mono ?_; rintro e' w2 ⟨rfl, hc, hg⟩; have T2 := Lib.hid (T1.out.call hc hg); clear hc hg; obtain ⟨x0, x1, x2, x3⟩ := T2.out.rx.cells)
      | (go_at_call_of 119 (Value.complex FloatKind.f32 c d); refine (E2.out _ T2.out.hc).mono ?_; rintro e' w3 ⟨rfl, hc, hg⟩; have T3 := Lib.hid (T2.out.call hc hg); clear hc hg; obtain ⟨x0, x1, x2, x3⟩ := T3.out.rx.cells)
      | (go_at_call_of 119 (Value.complex FloatKind.f32 g k); refine (E3.out _ T3.out.hc).mono ?_; rintro e' w4 ⟨rfl, hc, hg⟩; have T4 := Lib.hid (T3.out.call hc hg); clear hc hg; obtain ⟨x0, x1, x2, x3⟩ := T4.out.rx.cells; obtain ⟨y0, y1, y2, y3⟩ := T4.out.rr.cells; have g0 := T4.out.rr.frozen 0; have g1 := T4.out.rr.frozen 1; have g2 := T4.out.rr.frozen 2; have g3 := T4.out.rr.frozen 3))
  all_goals
    have hB := T4.out.hB
    obtain ⟨k0, k1, k2, k3⟩ := (T4.out.rr.put (.complex .f32 u0 u1) (.complex .f32 u2 u3) (.complex .f32 u4 u5) (.complex .f32 u6 u7)).cells
    clear y0 y1 y2 y3 c0 c1 c2 c3
    go_wp2
    refine bodyPost_ret (v := .agg #[.complex .f32 u0 u1, .complex .f32 u2 u3, .complex .f32 u4 u5, .complex .f32 u6 u7]) (by simp [results, Try.results116, go_sem, k0, k1, k2, k3]) rfl ?_
    exact ⟨rfl, high4 T4.out.hc T4.out.hg (by omega) (by omega) _ _ _ _⟩
theorem fz_fz (q : Int) (x : Nat) : fz q (fz q x) = fz q x := by
  unfold fz; split
  · exact cz_cz x
  · rfl
theorem fz_ng {x : Nat} (h : fin32 x = true) (q : Int) : fz q (ng (fz q x)) = fz q (ng x) := by
  by_cases hq : q = 0
  · subst hq; simp only [fz0]; exact (lk_ng (lk_cz h)).cz.symm
  · simp only [fz_not hq]
theorem conjF_any (B : Nat) (q : Int) (a b : Nat) (w : World) (h : CalcAt w B q) (fa : fin32 a = true) (fb : fin32 b = true) : Calls Try.prog 119 #[.pointer (some ⟨B, 0, none⟩), .complex .f32 (fz q a) (fz q b)] w (CalcZ B q (fz q a) (fz q (ng b)) w) := by
  have := conj_any B q (fz q a) (fz q b) w h (fin_fz fa) (fin_ng (fin_fz fb))
  rw [fz_fz, fz_ng fb] at this; exact this
theorem adjoint_any {K : Int} (B : Nat) (q : Int) (t : T8) (w : World) (h : CalcAt w B q) (ht : limT K t) : Calls Try.prog 116 #[.pointer (some ⟨B, 0, none⟩), (fzT q t).val] w (CalcT B q (fzT q (adjT t)) w) :=
  adjoint_walk B q (fzT q t) (fzT q (adjT t)) w h (fun w hw => conjF_any B q _ _ w hw ht.1.1.fin ht.1.2.fin) (fun w hw => conjF_any B q _ _ w hw ht.2.2.1.1.fin ht.2.2.1.2.fin)
    (fun w hw => conjF_any B q _ _ w hw ht.2.1.1.fin ht.2.1.2.fin) (fun w hw => conjF_any B q _ _ w hw ht.2.2.2.1.fin ht.2.2.2.2.fin)
end Go.Proofs.Ytkfahacnanlnfaa
namespace Go.Proofs.Ytkfahacnanlnfaa
open Go.RowKit Ieee
attribute [local go_sem ↓] Go.wp_at_zero Go.wp_at_succ

theorem pur_lim {t : T8} (h : purT t) : limT 0 t := ⟨h.1.1, h.1.2.1, h.2.1, h.2.2.1⟩
theorem PuAt.grown {w w' : World} {R B : Nat} {a k : Int} {b : Bool} (h : PuAt w R a k b) (hg : w.grownBy w' (some B)) (hne : R ≠ B) : PuAt w' R a k b := by
  have hl := h.lt
  obtain ⟨t, h⟩ := h
  exact ⟨t, (hg.block R hl (fun e => hne (Option.some.inj e))).trans h⟩
theorem grownAlloc {w w' : World} {B : Nat} (h : w.grownBy w' (some B)) (o : Obj) : w.grownBy (w'.alloc o) (some B) :=
  h.trans (toGrown ((Below.refl _ _).alloc (Nat.le_refl _) o) _)
theorem calcAlloc {w : World} {B : Nat} {q : Int} (h : CalcAt w B q) (o : Obj) : CalcAt (w.alloc o) B q := h.below ((Below.refl _ _).alloc (Nat.le_refl _) o) h.lt
theorem halvedTurn_val (B : Nat) (q : Int) (axis : Int) (k : Nat) (w : World) (t : T8) (ht : fzT q (about axis (hv k).1 (hv k).2) = t) (h : CalcAt w B q) (ha : axis = 0 ∨ axis = 1 ∨ axis = 2) (hk : k ≤ 24) :
    Calls Try.prog 115 #[.pointer (some ⟨B, 0, none⟩), .int .i64 axis, .int .i64 (k : Int)] w fun e w' => e = .returned (.agg #[.complex .f32 t.a t.b, .complex .f32 t.c t.d, .complex .f32 t.e t.f, .complex .f32 t.g t.h]) ∧ CalcAt w' B q ∧ w.grownBy w' (some B) := by
  rw [← ht]; exact halvedTurn_any B q axis k w h ha hk
theorem adjoint_val {K : Int} (B : Nat) (q : Int) (s : T8) (w : World) (t u : T8) (ht : fzT q s = t) (hu : fzT q (adjT s) = u) (h : CalcAt w B q) (hs : limT K s) :
    Calls Try.prog 116 #[.pointer (some ⟨B, 0, none⟩), .agg #[.complex .f32 t.a t.b, .complex .f32 t.c t.d, .complex .f32 t.e t.f, .complex .f32 t.g t.h]] w fun e w' => e = .returned (.agg #[.complex .f32 u.a u.b, .complex .f32 u.c u.d, .complex .f32 u.e u.f, .complex .f32 u.g u.h]) ∧ CalcAt w' B q ∧ w.grownBy w' (some B) := by
  rw [← ht, ← hu]; exact adjoint_any B q s w h hs
set_option maxHeartbeats 1000000 in
theorem tableOf_any (B : Nat) (q : Int) (a : Int) (k : Nat) (b : Bool) (w : World) (h : CalcAt w B q) (ha : a = 0 ∨ a = 1 ∨ a = 2) (hk : k ≤ 24) :
    Calls Try.prog 91 #[.pointer (some ⟨B, 0, none⟩), .agg #[.int .i64 a, .int .i64 (k : Int), .bool b]] w (CalcT B q (fzT q (plT ⟨a, (k : Int), b⟩)) w) := by
  obtain ⟨t, ht⟩ : ∃ t, fzT q (about a (hv k).1 (hv k).2) = t := ⟨_, rfl⟩
  obtain ⟨u, hu⟩ : ∃ u, fzT q (adjT (about a (hv k).1 (hv k).2)) = u := ⟨_, rfl⟩
  obtain ⟨⟨_, _, hc⟩, ⟨_, _, hs⟩⟩ := hv_ok k hk
  have hl := pur_lim (about_pur a hc hs).1
  have KH := Lib.hid (fun w hw => halvedTurn_val B q a k w t ht hw ha hk)
  have KA := Lib.hid (fun w hw => adjoint_val B q _ w t u ht hu hw hl)
  have hp : fzT q (plT ⟨a, (k : Int), b⟩) = if b then u else t := by
    have e : plT ⟨a, (k : Int), b⟩ = if b then adjT (about a (hv k).1 (hv k).2) else about a (hv k).1 (hv k).2 := rfl
    rw [e, ← ht, ← hu]
    cases b <;> rfl
  rw [hp]
  clear hp ht hu hl hc hs ha
  have hB := h.lt
  have X := row4_new (w.alloc (.cells #[.int .i64 a, .int .i64 (k : Int), .bool b] 80)) (.complex .f32 0 0) (.complex .f32 0 0) (.complex .f32 0 0) (.complex .f32 0 0) 51
  simp only [World.size_alloc] at X
  have P0 := (puAt_new w a (k : Int) b 80).alloc (.cells #[.complex .f32 0 0, .complex .f32 0 0, .complex .f32 0 0, .complex .f32 0 0] 51)
  have b0 : Below w.heap.size w ((w.alloc (.cells #[.int .i64 a, .int .i64 (k : Int), .bool b] 80)).alloc (.cells #[.complex .f32 0 0, .complex .f32 0 0, .complex .f32 0 0, .complex .f32 0 0] 51)) := ((Below.refl _ _).alloc (Nat.le_refl _) _).alloc (by simp) _
  have HC := Lib.hid (h.below b0 h.lt); clear h
  have HG := Lib.hid (toGrown b0 (some B))
  have X0 := Lib.hid X; clear X
  have HP := Lib.hid P0; clear P0 b0
  unfold CalcT T8.val quad
  go_enter Try.func91, Try.ntmps91
  go_wp2_with fail
  refine (KH.out _ HC.out).mono ?_
  rintro e w1 ⟨rfl, hc, hg⟩
  have C1 := Lib.hid (calcAlloc hc (.cells #[.complex .f32 t.a t.b, .complex .f32 t.c t.d, .complex .f32 t.e t.f, .complex .f32 t.g t.h] 51))
  have X1 := X0.out.grown hg (by omega)
  have P1 := HP.out.grown hg (by omega)
  have G1 := Lib.hid (grownAlloc (HG.out.trans hg) (.cells #[.complex .f32 t.a t.b, .complex .f32 t.c t.d, .complex .f32 t.e t.f, .complex .f32 t.g t.h] 51))
  have Y2 := Lib.hid (row4_new w1 (.complex .f32 t.a t.b) (.complex .f32 t.c t.d) (.complex .f32 t.e t.f) (.complex .f32 t.g t.h) 51)
  have X2 := Lib.hid (X1.alloc (.cells #[.complex .f32 t.a t.b, .complex .f32 t.c t.d, .complex .f32 t.e t.f, .complex .f32 t.g t.h] 51))
  have P2 := Lib.hid (P1.alloc (.cells #[.complex .f32 t.a t.b, .complex .f32 t.c t.d, .complex .f32 t.e t.f, .complex .f32 t.g t.h] 51))
  have n1 : w.heap.size ≠ w1.heap.size := by have := P1.lt; omega
  have n2 : w.heap.size + 1 ≠ w1.heap.size := by have := X1.lt; omega
  obtain ⟨p0, p1, p2⟩ := P1.cells
  obtain ⟨q0, q1, q2⟩ := P2.out.cells
  clear hc hg X1 P1 HC HG X0 HP
  cases b with
  | true =>
    go_wp2_with fail
    refine (KA.out _ C1.out).mono ?_
    rintro e w3 ⟨rfl, hc, hg⟩
    have C3 := Lib.hid hc
    have X3 := Lib.hid (X2.out.grown hg (by omega))
    have G3 := Lib.hid (G1.out.trans hg)
    clear hc hg p0 p1 p2 q0 q1 q2
    have g0 := X3.out.frozen 0
    have g1 := X3.out.frozen 1
    have g2 := X3.out.frozen 2
    have g3 := X3.out.frozen 3
    obtain ⟨c0, c1, c2, c3⟩ := X3.out.cells
    go_wp2
    obtain ⟨k0, k1, k2, k3⟩ := (X3.out.put (.complex .f32 u.a u.b) (.complex .f32 u.c u.d) (.complex .f32 u.e u.f) (.complex .f32 u.g u.h)).cells
    refine bodyPost_ret (v := .agg #[.complex .f32 u.a u.b, .complex .f32 u.c u.d, .complex .f32 u.e u.f, .complex .f32 u.g u.h]) (by simp [results, Try.results91, go_sem, k0, k1, k2, k3]) rfl ?_
    exact ⟨rfl, high4 C3.out G3.out (by omega) (by omega) _ _ _ _⟩
  | false =>
    have g0 := X2.out.frozen 0
    have g1 := X2.out.frozen 1
    have g2 := X2.out.frozen 2
    have g3 := X2.out.frozen 3
    obtain ⟨c0, c1, c2, c3⟩ := X2.out.cells
    obtain ⟨d0, d1, d2, d3⟩ := Y2.out.cells
    go_wp2
    obtain ⟨k0, k1, k2, k3⟩ := (X2.out.put (.complex .f32 t.a t.b) (.complex .f32 t.c t.d) (.complex .f32 t.e t.f) (.complex .f32 t.g t.h)).cells
    refine bodyPost_ret (v := .agg #[.complex .f32 t.a t.b, .complex .f32 t.c t.d, .complex .f32 t.e t.f, .complex .f32 t.g t.h]) (by simp [results, Try.results91, go_sem, k0, k1, k2, k3]) rfl ?_
    exact ⟨rfl, high4 C1.out G1.out (by omega) (by omega) _ _ _ _⟩
theorem unit_cz : czT unitT = ⟨1065353216, 0, 0, 0, 0, 0, 1065353216, 0⟩ := by
  have h : cz 1065353216 = 1065353216 ∧ cz 0 = 0 ∧ cz (ng 0) = 0 := by decide +kernel
  unfold czT unitT tab
  dsimp only
  rw [h.1, h.2.1, h.2.2]
theorem implUnit_any (w : World) : Calls Try.prog 89 #[] w fun e w' => e = .returned (.agg #[.complex .f32 1065353216 0, .complex .f32 0 0, .complex .f32 0 0, .complex .f32 1065353216 0]) ∧ Below w.heap.size w w' := by
  go_enter Try.func89, Try.ntmps89
  go_wp2
  refine bodyPost_ret (v := .agg #[.complex .f32 1065353216 0, .complex .f32 0 0, .complex .f32 0 0, .complex .f32 1065353216 0]) (by simp [results, Try.results89, go_sem]) rfl ?_
  exact ⟨rfl, (Below.refl _ _).alloc (Nat.le_refl _) _⟩
end Go.Proofs.Ytkfahacnanlnfaa
