/- Walks: products of tables, the program's side. -/
/- The program's tables: what they are; the numbers of halvings. -/
import Derived.Test.YtkfahacnanlnfaaZBd
import Derived.Test.YtkfahacnanlnfaaZEo
namespace Go.Proofs.Ytkfahacnanlnfaa
open Go.RowKit Ieee
attribute [local go_sem ↓] Go.wp_at_zero Go.wp_at_succ

theorem Row4.grown {w w' : World} {R B : Nat} {a b c d : Value} (h : Row4 w R a b c d) (hg : w.grownBy w' (some B)) (hne : R ≠ B) : Row4 w' R a b c d :=
  h.keep (hg.block R h.lt (fun e => hne (Option.some.inj e)))
/-- What lies there while the program makes a product. -/
structure TimI (w : World) (B : Nat) (q : Int) (O : Nat) (x y : T8) (o0 o1 o2 o3 : Value) (w' : World) : Prop where
  rx : Row4 w' w.heap.size (.complex .f32 x.a x.b) (.complex .f32 x.c x.d) (.complex .f32 x.e x.f) (.complex .f32 x.g x.h)
  ry : Row4 w' (w.heap.size + 1) (.complex .f32 y.a y.b) (.complex .f32 y.c y.d) (.complex .f32 y.e y.f) (.complex .f32 y.g y.h)
  rr : Row4 w' (w.heap.size + 1 + 1) (.complex .f32 0 0) (.complex .f32 0 0) (.complex .f32 0 0) (.complex .f32 0 0)
  ro : Row4 w' O o0 o1 o2 o3
  hO : O = w.heap.size + 1 + 1 + 1
  hB : B < w.heap.size
  hc : CalcAt w' B q
  hg : w.grownBy w' (some B)
section
variable {w w' w2 : World} {B : Nat} {q : Int} {O : Nat} {x y : T8} {o0 o1 o2 o3 : Value}
theorem TimI.start (h : Tims w O x y o0 o1 o2 o3 w') (hc : CalcAt w B q) : TimI w B q O x y o0 o1 o2 o3 w' :=
  ⟨h.rx, h.ry, h.rr, h.ro, h.hO, hc.lt, hc.below h.lo hc.lt, toGrown h.lo _⟩
theorem TimI.hcd (h : TimI w B q O x y o0 o1 o2 o3 w') : CalcAt w'.drew B q := h.hc
theorem TimI.call (h : TimI w B q O x y o0 o1 o2 o3 w') (hc : CalcAt w2 B q) (hg : w'.drew.grownBy w2 (some B)) : TimI w B q O x y o0 o1 o2 o3 w2 := by
  have hB := h.hB
  have hO := h.hO
  exact ⟨h.rx.drew.grown hg (by omega), h.ry.drew.grown hg (by omega), h.rr.drew.grown hg (by omega), h.ro.drew.grown hg (by omega), hO, hB, hc,
    (show w.grownBy w'.drew (some B) from ⟨h.hg.os, h.hg.tape, h.hg.output, h.hg.size, h.hg.block⟩).trans hg⟩
theorem TimI.put (h : TimI w B q O x y o0 o1 o2 o3 w') (v : Value) (i : Nat) {p0 p1 p2 p3 : Value} (hr : Row4 (w'.setCell ⟨O, i, none⟩ v) O p0 p1 p2 p3) :
    TimI w B q O x y p0 p1 p2 p3 (w'.setCell ⟨O, i, none⟩ v) := by
  have hO := h.hO
  have hB := h.hB
  refine ⟨h.rx.other (by simp; omega) v, h.ry.other (by simp; omega) v, h.rr.other (by simp; omega) v, hr, hO, hB, ?_, grown_high h.hg _ _ (by simp; omega)⟩
  exact (Below.heap_setCell _ _ _ _ (by simp; omega)).trans h.hc
end
/-- The call for one entry of the program's product. -/
def EntI (B : Nat) (q : Int) (a b c d p r s t u v : Nat) : Prop := ∀ w, CalcAt w B q → Calls Try.prog 114 #[.pointer (some ⟨B, 0, none⟩), .complex .f32 a b, .complex .f32 c d, .complex .f32 p r, .complex .f32 s t] w (CalcZ B q u v w)
/-- The call hands back a table; the calculation keeps its code. -/
def CalcT (B : Nat) (q : Int) (t : T8) (w : World) (e : Ending) (w' : World) : Prop := e = .returned t.val ∧ CalcAt w' B q ∧ w.grownBy w' (some B)
set_option maxRecDepth 100000 in
set_option maxHeartbeats 4000000 in
theorem product_walk (B : Nat) (q : Int) (x y u : T8) (w : World) (hB : CalcAt w B q) (h00 : EntI B q x.a x.b y.a y.b x.c x.d y.e y.f u.a u.b) (h01 : EntI B q x.a x.b y.c y.d x.c x.d y.g y.h u.c u.d)
    (h10 : EntI B q x.e x.f y.a y.b x.g x.h y.e y.f u.e u.f) (h11 : EntI B q x.e x.f y.c y.d x.g x.h y.g y.h u.g u.h) : Calls Try.prog 90 #[.pointer (some ⟨B, 0, none⟩), x.val, y.val] w (CalcT B q u w) := by
  obtain ⟨a, b, c, d, e, f, g, k⟩ := x
  obtain ⟨a', b', c', d', e', f', g', k'⟩ := y
  obtain ⟨u0, u1, u2, u3, u4, u5, u6, u7⟩ := u
  have E00 := Lib.hid h00; have E01 := Lib.hid h01; have E10 := Lib.hid h10; have E11 := Lib.hid h11
  clear h00 h01 h10 h11
  have T0 := Lib.hid (TimI.start (Tims.start w a b c d e f g k a' b' c' d' e' f' g' k') hB)
  clear hB
  unfold EntI CalcZ at *
  unfold CalcT T8.val quad
  dsimp only at *
  go_enter Try.func90, Try.ntmps90
  go_wp2
  generalize ((((w.alloc (.cells #[.complex .f32 a b, .complex .f32 c d, .complex .f32 e f, .complex .f32 g k] 51)).alloc (.cells #[.complex .f32 a' b', .complex .f32 c' d', .complex .f32 e' f', .complex .f32 g' k'] 51)).alloc (.cells #[.complex .f32 0 0, .complex .f32 0 0, .complex .f32 0 0, .complex .f32 0 0] 51)).alloc (.cells #[.complex .f32 0 0, .complex .f32 0 0, .complex .f32 0 0, .complex .f32 0 0] 51)) = w0 at T0 ⊢
  obtain ⟨O, hO⟩ : ∃ O, w.heap.size + 1 + 1 + 1 = O := ⟨_, rfl⟩
  rw [hO] at T0 ⊢
  have hO1 : w.heap.size ≠ O := by omega
  have hO2 : w.heap.size + 1 ≠ O := by omega
  have hO3 : w.heap.size + 1 + 1 ≠ O := by omega
  have hO4 : O ≠ w.heap.size := by omega
  have hO5 : O ≠ w.heap.size + 1 := by omega
  clear hO
  refine wp_loop_rounds 3 ?_
  rw [rounds_succ]
  go_wp2_with fail
  refine wp_loop_rounds 3 ?_
  rw [rounds_succ]
  obtain ⟨c0, c1, c2, c3⟩ := T0.out.rx.cells
  obtain ⟨d0, d1, d2, d3⟩ := T0.out.ry.cells
  go_wp2_with fail
  go_region_held3 (fun w' => w'.cell? ⟨w.heap.size, 0, none⟩ = some (.complex .f32 a b) ∧ w'.cell? ⟨w.heap.size, 1, none⟩ = some (.complex .f32 c d) ∧ w'.cell? ⟨w.heap.size, 2, none⟩ = some (.complex .f32 e f) ∧ w'.cell? ⟨w.heap.size, 3, none⟩ = some (.complex .f32 g k) ∧ w'.cell? ⟨w.heap.size + 1, 0, none⟩ = some (.complex .f32 a' b') ∧ w'.cell? ⟨w.heap.size + 1, 1, none⟩ = some (.complex .f32 c' d') ∧ w'.cell? ⟨w.heap.size + 1, 2, none⟩ = some (.complex .f32 e' f') ∧ w'.cell? ⟨w.heap.size + 1, 3, none⟩ = some (.complex .f32 g' k')) (go_keep) ((go_at_call 114; refine (E00.out _ T0.out.hcd).mono ?_; rintro e' w4 ⟨rfl, hc4, hg4⟩; have C4 := Lib.hid (TimI.call T0.out hc4 hg4); obtain ⟨x0, x1, x2, x3⟩ := C4.out.rx.cells; obtain ⟨y0, y1, y2, y3⟩ := C4.out.ry.cells; have g0 := C4.out.ro.frozen 0; obtain ⟨e0, e1, e2, e3⟩ := C4.out.ro.cells; clear hc4 hg4))
  have T1 := Lib.hid (C4.out.put (.complex .f32 u0 u1) 0 (C4.out.ro.set0 (.complex .f32 u0 u1)))
  clear T0 C4 c0 c1 c2 c3 d0 d1 d2 d3 g0 e0 e1 e2 e3 x0 x1 x2 x3 y0 y1 y2 y3
  generalize World.setCell _ _ _ = w1 at T1 ⊢
  go_wp2_with fail
  rw [rounds_succ]
  obtain ⟨c0, c1, c2, c3⟩ := T1.out.rx.cells
  obtain ⟨d0, d1, d2, d3⟩ := T1.out.ry.cells
  go_wp2_with fail
  go_region_held3 (fun w' => w'.cell? ⟨w.heap.size, 0, none⟩ = some (.complex .f32 a b) ∧ w'.cell? ⟨w.heap.size, 1, none⟩ = some (.complex .f32 c d) ∧ w'.cell? ⟨w.heap.size, 2, none⟩ = some (.complex .f32 e f) ∧ w'.cell? ⟨w.heap.size, 3, none⟩ = some (.complex .f32 g k) ∧ w'.cell? ⟨w.heap.size + 1, 0, none⟩ = some (.complex .f32 a' b') ∧ w'.cell? ⟨w.heap.size + 1, 1, none⟩ = some (.complex .f32 c' d') ∧ w'.cell? ⟨w.heap.size + 1, 2, none⟩ = some (.complex .f32 e' f') ∧ w'.cell? ⟨w.heap.size + 1, 3, none⟩ = some (.complex .f32 g' k')) (go_keep) ((go_at_call 114; refine (E01.out _ T1.out.hcd).mono ?_; rintro e' w4 ⟨rfl, hc4, hg4⟩; have C4 := Lib.hid (TimI.call T1.out hc4 hg4); obtain ⟨x0, x1, x2, x3⟩ := C4.out.rx.cells; obtain ⟨y0, y1, y2, y3⟩ := C4.out.ry.cells; have g0 := C4.out.ro.frozen 1; obtain ⟨e0, e1, e2, e3⟩ := C4.out.ro.cells; clear hc4 hg4))
  have T2 := Lib.hid (C4.out.put (.complex .f32 u2 u3) 1 (C4.out.ro.set1 (.complex .f32 u2 u3)))
  clear T1 C4 c0 c1 c2 c3 d0 d1 d2 d3 g0 e0 e1 e2 e3 x0 x1 x2 x3 y0 y1 y2 y3
  generalize World.setCell _ _ _ = w2 at T2 ⊢
  go_wp2_with fail
  rw [rounds_succ]
  go_wp2_with fail
  rw [rounds_succ]
  go_wp2_with fail
  refine wp_loop_rounds 3 ?_
  rw [rounds_succ]
  obtain ⟨c0, c1, c2, c3⟩ := T2.out.rx.cells
  obtain ⟨d0, d1, d2, d3⟩ := T2.out.ry.cells
  go_wp2_with fail
  go_region_held3 (fun w' => w'.cell? ⟨w.heap.size, 0, none⟩ = some (.complex .f32 a b) ∧ w'.cell? ⟨w.heap.size, 1, none⟩ = some (.complex .f32 c d) ∧ w'.cell? ⟨w.heap.size, 2, none⟩ = some (.complex .f32 e f) ∧ w'.cell? ⟨w.heap.size, 3, none⟩ = some (.complex .f32 g k) ∧ w'.cell? ⟨w.heap.size + 1, 0, none⟩ = some (.complex .f32 a' b') ∧ w'.cell? ⟨w.heap.size + 1, 1, none⟩ = some (.complex .f32 c' d') ∧ w'.cell? ⟨w.heap.size + 1, 2, none⟩ = some (.complex .f32 e' f') ∧ w'.cell? ⟨w.heap.size + 1, 3, none⟩ = some (.complex .f32 g' k')) (go_keep) ((go_at_call 114; refine (E10.out _ T2.out.hcd).mono ?_; rintro e' w4 ⟨rfl, hc4, hg4⟩; have C4 := Lib.hid (TimI.call T2.out hc4 hg4); obtain ⟨x0, x1, x2, x3⟩ := C4.out.rx.cells; obtain ⟨y0, y1, y2, y3⟩ := C4.out.ry.cells; have g0 := C4.out.ro.frozen 2; obtain ⟨e0, e1, e2, e3⟩ := C4.out.ro.cells; clear hc4 hg4))
  have T3 := Lib.hid (C4.out.put (.complex .f32 u4 u5) 2 (C4.out.ro.set2 (.complex .f32 u4 u5)))
  clear T2 C4 c0 c1 c2 c3 d0 d1 d2 d3 g0 e0 e1 e2 e3 x0 x1 x2 x3 y0 y1 y2 y3
  generalize World.setCell _ _ _ = w3 at T3 ⊢
  go_wp2_with fail
  rw [rounds_succ]
  obtain ⟨c0, c1, c2, c3⟩ := T3.out.rx.cells
  obtain ⟨d0, d1, d2, d3⟩ := T3.out.ry.cells
  go_wp2_with fail
  go_region_held3 (fun w' => w'.cell? ⟨w.heap.size, 0, none⟩ = some (.complex .f32 a b) ∧ w'.cell? ⟨w.heap.size, 1, none⟩ = some (.complex .f32 c d) ∧ w'.cell? ⟨w.heap.size, 2, none⟩ = some (.complex .f32 e f) ∧ w'.cell? ⟨w.heap.size, 3, none⟩ = some (.complex .f32 g k) ∧ w'.cell? ⟨w.heap.size + 1, 0, none⟩ = some (.complex .f32 a' b') ∧ w'.cell? ⟨w.heap.size + 1, 1, none⟩ = some (.complex .f32 c' d') ∧ w'.cell? ⟨w.heap.size + 1, 2, none⟩ = some (.complex .f32 e' f') ∧ w'.cell? ⟨w.heap.size + 1, 3, none⟩ = some (.complex .f32 g' k')) (go_keep) ((go_at_call 114; refine (E11.out _ T3.out.hcd).mono ?_; rintro e' w4 ⟨rfl, hc4, hg4⟩; have C4 := Lib.hid (TimI.call T3.out hc4 hg4); obtain ⟨x0, x1, x2, x3⟩ := C4.out.rx.cells; obtain ⟨y0, y1, y2, y3⟩ := C4.out.ry.cells; have g0 := C4.out.ro.frozen 3; obtain ⟨e0, e1, e2, e3⟩ := C4.out.ro.cells; clear hc4 hg4))
  have T4 := Lib.hid (C4.out.put (.complex .f32 u6 u7) 3 (C4.out.ro.set3 (.complex .f32 u6 u7)))
  clear T3 C4 c0 c1 c2 c3 d0 d1 d2 d3 g0 e0 e1 e2 e3 x0 x1 x2 x3 y0 y1 y2 y3
  generalize World.setCell _ _ _ = w4 at T4 ⊢
  go_wp2_with fail
  rw [rounds_succ]
  go_wp2_with fail
  rw [rounds_succ]
  obtain ⟨c0, c1, c2, c3⟩ := T4.out.ro.cells
  obtain ⟨d0, d1, d2, d3⟩ := T4.out.rr.cells
  have g0 := T4.out.rr.frozen 0
  have g1 := T4.out.rr.frozen 1
  have g2 := T4.out.rr.frozen 2
  have g3 := T4.out.rr.frozen 3
  have hBl := T4.out.hB
  go_wp2
  obtain ⟨k0, k1, k2, k3⟩ := (T4.out.rr.put (.complex .f32 u0 u1) (.complex .f32 u2 u3) (.complex .f32 u4 u5) (.complex .f32 u6 u7)).cells
  refine bodyPost_ret (v := .agg #[.complex .f32 u0 u1, .complex .f32 u2 u3, .complex .f32 u4 u5, .complex .f32 u6 u7]) (by simp [results, Try.results90, go_sem, k0, k1, k2, k3]) rfl ?_
  exact ⟨rfl, high4 T4.out.hc T4.out.hg (by omega) (by omega) _ _ _ _⟩
end Go.Proofs.Ytkfahacnanlnfaa
namespace Go.Proofs.Ytkfahacnanlnfaa
open Go.RowKit Ieee

theorem lk.zr {f : Format} {x y : Nat} (h : lk f x y) (hx : zr f x) : zr f y := by
  rcases h with rfl | ⟨_, h⟩
  · exact hx
  · exact h
theorem zr_cz {x : Nat} (h : zr single x) : zr single (cz x) := (lk_cz (fin_iff.2 (by obtain ⟨s, h⟩ := h; exact ⟨s, _, _, h⟩))).zr h
theorem uni_cz {a b : Nat} (h : uni a b) : uni (cz a) (cz b) := ⟨lim_cz h.1, lim_cz h.2⟩
theorem two_cz {K : Int} {a b : Nat} (h : two K a b) : two K (cz a) (cz b) := ⟨lim_cz h.1, lim_cz h.2⟩
theorem rowOk_cz {a b p q : Nat} (h : rowOk a b p q) : rowOk (cz a) (cz b) (cz p) (cz q) :=
  ⟨uni_cz h.1, uni_cz h.2.1, h.2.2.imp (fun h => ⟨h.1.imp zr_cz zr_cz, h.2.imp zr_cz zr_cz⟩) (fun h => h.imp (fun h => ⟨zr_cz h.1, zr_cz h.2⟩) (fun h => ⟨zr_cz h.1, zr_cz h.2⟩))⟩
theorem purT_cz {t : T8} (h : purT t) : purT (czT t) := ⟨rowOk_cz h.1, rowOk_cz h.2⟩
theorem limT_cz {K : Int} {t : T8} (h : limT K t) : limT K (czT t) := ⟨two_cz h.1, two_cz h.2.1, two_cz h.2.2.1, two_cz h.2.2.2⟩
theorem purT_zero : purT zeroT := ⟨⟨⟨lim0, lim0⟩, ⟨lim0, lim0⟩, .inr (.inl ⟨zr0, zr0⟩)⟩, ⟨⟨lim0, lim0⟩, ⟨lim0, lim0⟩, .inr (.inl ⟨zr0, zr0⟩)⟩⟩
theorem limT_zero {K : Int} : limT K zeroT := ⟨⟨lim0, lim0⟩, ⟨lim0, lim0⟩, ⟨lim0, lim0⟩, ⟨lim0, lim0⟩⟩
/-- A table in a calculation: without the signs of zeros; zeros behind a failure. -/
def fzT (q : Int) (t : T8) : T8 := ⟨fz q t.a, fz q t.b, fz q t.c, fz q t.d, fz q t.e, fz q t.f, fz q t.g, fz q t.h⟩
theorem fzT0 (t : T8) : fzT 0 t = czT t := by unfold fzT czT; simp only [fz0]
theorem fzT_not {q : Int} (h : q ≠ 0) (t : T8) : fzT q t = zeroT := by unfold fzT zeroT; simp only [fz_not h]
theorem fzT_pur {q : Int} {t : T8} (h : purT t) : purT (fzT q t) := by
  by_cases hq : q = 0
  · subst hq; rw [fzT0]; exact purT_cz h
  · rw [fzT_not hq]; exact purT_zero
theorem fzT_lim {q K : Int} {t : T8} (h : limT K t) : limT K (fzT q t) := by
  by_cases hq : q = 0
  · subst hq; rw [fzT0]; exact limT_cz h
  · rw [fzT_not hq]; exact limT_zero
theorem lim_fz {q K : Int} {x : Nat} (h : lim single K x) : lim single K (fz q x) := by
  unfold fz; split
  · exact lim_cz h
  · exact lim0
theorem cz_zero' : cz 0 = 0 := by decide +kernel
theorem cz_fz (q : Int) (x : Nat) : cz (fz q x) = fz q x := by
  unfold fz; split
  · exact cz_cz x
  · exact cz_zero'
/-- An entry of the program's product of two told tables. -/
theorem entI_of {B : Nat} {q : Int} {a b c d p r s t : Nat} {K : Int} (h : rowOk a b p r) (h' : two K c d) (g' : two K s t) (h1 : -149 ≤ K) (h2 : K < 125) :
    EntI B q (fz q a) (fz q b) (fz q c) (fz q d) (fz q p) (fz q r) (fz q s) (fz q t) (fz q (eRe a b c d p r s t)) (fz q (eIm a b c d p r s t)) := by
  have H : rowOk (fz q a) (fz q b) (fz q p) (fz q r) ∧ two K (fz q c) (fz q d) ∧ two K (fz q s) (fz q t) := by
    by_cases hq : q = 0
    · subst hq; simp only [fz0]; exact ⟨rowOk_cz h, two_cz h', two_cz g'⟩
    · simp only [fz_not hq]; exact ⟨purT_zero.1, ⟨lim0, lim0⟩, ⟨lim0, lim0⟩⟩
  obtain ⟨m1, ⟨l1, l2⟩, _⟩ := mul_ok H.1.1 H.2.1 h1 (by omega)
  obtain ⟨m2, ⟨l3, l4⟩, _⟩ := mul_ok H.1.2.1 H.2.2 h1 (by omega)
  have e1 : fz q (op32 .add (fz q (exV (fz q a) (fz q c) (ng (fz q b)) (fz q d))) (fz q (exV (fz q p) (fz q s) (ng (fz q r)) (fz q t)))) = fz q (eRe a b c d p r s t) ∧
      fz q (op32 .add (fz q (exV (fz q a) (fz q d) (fz q b) (fz q c))) (fz q (exV (fz q p) (fz q t) (fz q r) (fz q s)))) = fz q (eIm a b c d p r s t) := by
    by_cases hq : q = 0
    · subst hq
      simp only [fz0]
      exact ent_lk h.1 h' h.2.1 g' h1 h2 (lk_cz h.1.1.fin) (lk_cz h.1.2.fin) (lk_cz h'.1.fin) (lk_cz h'.2.fin) (lk_cz h.2.1.1.fin) (lk_cz h.2.1.2.fin) (lk_cz g'.1.fin) (lk_cz g'.2.fin)
    · simp only [fz_not hq]; exact ⟨trivial, trivial⟩
  rw [← e1.1, ← e1.2]
  intro w hw
  exact inTable_any B q _ _ _ _ _ _ _ _ w hw H.1.1.1.fin H.1.1.2.fin H.2.1.1.fin H.2.1.2.fin (lim_ng H.1.1.2).fin m1 H.1.2.1.1.fin H.1.2.1.2.fin H.2.2.1.fin H.2.2.2.fin (lim_ng H.1.2.1.2).fin m2 _ _ rfl rfl
    (lim_add (lim_fz l1) (lim_fz l3) (by omega) (by omega)).1.fin (lim_add (lim_fz l2) (lim_fz l4) (by omega) (by omega)).1.fin
theorem product_any {K : Int} (B : Nat) (q : Int) (x y : T8) (w : World) (hB : CalcAt w B q) (hx : purT x) (hy : limT K y) (h1 : -149 ≤ K) (h2 : K < 125) :
    Calls Try.prog 90 #[.pointer (some ⟨B, 0, none⟩), (fzT q x).val, (fzT q y).val] w (CalcT B q (fzT q (tmT x y)) w) :=
  product_walk B q (fzT q x) (fzT q y) (fzT q (tmT x y)) w hB (entI_of hx.1 hy.1 hy.2.2.1 h1 h2) (entI_of hx.1 hy.2.1 hy.2.2.2 h1 h2) (entI_of hx.2 hy.1 hy.2.2.1 h1 h2) (entI_of hx.2 hy.2.1 hy.2.2.2 h1 h2)

/-! Quotients and halvings. -/
theorem divG_any (B : Nat) (q : Int) (a d r : Nat) (w : World) (h : CalcAt w B q) (hd : (FloatKind.f32.format.order d 0 == some .eq) = false) (hr : floatBits .quo .f32 a d = some r) (fr : fin32 r = true) :
    Calls Try.prog 54 #[.pointer (some ⟨B, 0, none⟩), .float .f32 a, .float .f32 d] w (CalcPost B q (fz q r) w) := by
  have HC := Lib.hid h; clear h
  have hop : ∀ t w, (binOp .quo t (.float .f32 a) (.float .f32 d)).run Try.prog w = .ok (.float .f32 r) w := fun t w => run_float_arith w .quo t .f32 _ _ _ hr
  clear hr
  go_enter Try.func54, Try.ntmps54
  go_wp2_with (first | (go_at_call 82; refine (roundF_any B q r _ HC.out fr).mono ?_; rintro e w2 ⟨rfl, hc2, hg⟩) | (simp only [hop]))
  go_ret
  exact ⟨rfl, hc2, hg⟩
theorem divZ_any (B : Nat) (q : Int) (a d : Nat) (w : World) (h : CalcAt w B q) (hd : (FloatKind.f32.format.order d 0 == some .eq) = true) :
    Calls Try.prog 54 #[.pointer (some ⟨B, 0, none⟩), .float .f32 a, .float .f32 d] w (CalcPost B q 0 w) := by
  have HC := Lib.hid h; clear h
  go_enter Try.func54, Try.ntmps54
  go_wp2
  go_ret
  exact ⟨rfl, HC.out, World.grownBy.refl _ _⟩
/-- The numbers of halvings, in a calculation. -/
def hvq (q : Int) (k : Nat) : Nat × Nat := if q = 0 then hv k else (if k = 0 then (0, 1065353216) else (0, 0))
theorem hvq_ok (q : Int) (k : Nat) (hk : k ≤ 24) : fin32 (hvq q k).1 = true ∧ fin32 (hvq q k).2 = true ∧ fz q (hvq q k).1 = fz q (hv k).1 ∧ fz q (hvq q k).2 = fz q (hv k).2 := by
  obtain ⟨⟨f1, _, _⟩, ⟨f2, _, _⟩⟩ := hv_ok k hk
  unfold hvq
  by_cases hq : q = 0
  · rw [if_pos hq]; exact ⟨f1, f2, rfl, rfl⟩
  · rw [if_neg hq]
    simp only [fz_not hq]
    split
    · exact ⟨fin_zero, fin_one32, trivial, trivial⟩
    · exact ⟨fin_zero, fin_zero, trivial, trivial⟩
end Go.Proofs.Ytkfahacnanlnfaa
