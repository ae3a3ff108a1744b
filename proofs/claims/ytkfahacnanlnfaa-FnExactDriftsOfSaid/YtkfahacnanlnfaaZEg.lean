/- Walks: products of tables, the reference's side. -/
import Derived.Test.YtkfahacnanlnfaaZEf
import Derived.LoopN
import Derived.Deep.DrawnRows
namespace Go.Proofs.Ytkfahacnanlnfaa
open Go.RowKit Ieee
attribute [local go_sem ↓] Go.wp_at_zero Go.wp_at_succ

/-- What lies there while a product is made: both tables, the result's place, the table so far. -/
structure Tims (w : World) (O : Nat) (x y : T8) (o0 o1 o2 o3 : Value) (w' : World) : Prop where
  rx : Row4 w' w.heap.size (.complex .f32 x.a x.b) (.complex .f32 x.c x.d) (.complex .f32 x.e x.f) (.complex .f32 x.g x.h)
  ry : Row4 w' (w.heap.size + 1) (.complex .f32 y.a y.b) (.complex .f32 y.c y.d) (.complex .f32 y.e y.f) (.complex .f32 y.g y.h)
  rr : Row4 w' (w.heap.size + 1 + 1) (.complex .f32 0 0) (.complex .f32 0 0) (.complex .f32 0 0) (.complex .f32 0 0)
  ro : Row4 w' O o0 o1 o2 o3
  hO : O = w.heap.size + 1 + 1 + 1
  lo : Below w.heap.size w w'
theorem Tims.start (w : World) (a b c d e f g h a' b' c' d' e' f' g' h' : Nat) : Tims w (w.heap.size + 1 + 1 + 1) ⟨a, b, c, d, e, f, g, h⟩ ⟨a', b', c', d', e', f', g', h'⟩ (.complex .f32 0 0) (.complex .f32 0 0) (.complex .f32 0 0) (.complex .f32 0 0)
    ((((w.alloc (.cells #[.complex .f32 a b, .complex .f32 c d, .complex .f32 e f, .complex .f32 g h] 51)).alloc (.cells #[.complex .f32 a' b', .complex .f32 c' d', .complex .f32 e' f', .complex .f32 g' h'] 51)).alloc (.cells #[.complex .f32 0 0, .complex .f32 0 0, .complex .f32 0 0, .complex .f32 0 0] 51)).alloc (.cells #[.complex .f32 0 0, .complex .f32 0 0, .complex .f32 0 0, .complex .f32 0 0] 51)) := by
  have X := row4_new w (.complex .f32 a b) (.complex .f32 c d) (.complex .f32 e f) (.complex .f32 g h) 51
  have Y := row4_new (w.alloc (.cells #[.complex .f32 a b, .complex .f32 c d, .complex .f32 e f, .complex .f32 g h] 51)) (.complex .f32 a' b') (.complex .f32 c' d') (.complex .f32 e' f') (.complex .f32 g' h') 51
  have R := row4_new ((w.alloc (.cells #[.complex .f32 a b, .complex .f32 c d, .complex .f32 e f, .complex .f32 g h] 51)).alloc (.cells #[.complex .f32 a' b', .complex .f32 c' d', .complex .f32 e' f', .complex .f32 g' h'] 51)) (.complex .f32 0 0) (.complex .f32 0 0) (.complex .f32 0 0) (.complex .f32 0 0) 51
  have O := row4_new (((w.alloc (.cells #[.complex .f32 a b, .complex .f32 c d, .complex .f32 e f, .complex .f32 g h] 51)).alloc (.cells #[.complex .f32 a' b', .complex .f32 c' d', .complex .f32 e' f', .complex .f32 g' h'] 51)).alloc (.cells #[.complex .f32 0 0, .complex .f32 0 0, .complex .f32 0 0, .complex .f32 0 0] 51)) (.complex .f32 0 0) (.complex .f32 0 0) (.complex .f32 0 0) (.complex .f32 0 0) 51
  simp only [World.size_alloc] at Y R O
  exact ⟨((X.alloc _).alloc _).alloc _, (Y.alloc _).alloc _, R.alloc _, O, rfl, ((((Below.refl _ _).alloc (Nat.le_refl _) _).alloc (by simp) _).alloc (by simp; omega) _).alloc (by simp; omega) _⟩
section
variable {w w' : World} {O : Nat} {x y : T8} {o0 o1 o2 o3 : Value}
theorem Row4.set0 {B : Nat} {a b c d : Value} (h : Row4 w B a b c d) (v : Value) : Row4 (w.setCell ⟨B, 0, none⟩ v) B v b c d := by
  obtain ⟨t, h⟩ := h; exact ⟨t, by simp [World.setCell, Array.getElem?_modify, h]⟩
theorem Row4.set1 {B : Nat} {a b c d : Value} (h : Row4 w B a b c d) (v : Value) : Row4 (w.setCell ⟨B, 1, none⟩ v) B a v c d := by
  obtain ⟨t, h⟩ := h; exact ⟨t, by simp [World.setCell, Array.getElem?_modify, h]⟩
theorem Row4.set2 {B : Nat} {a b c d : Value} (h : Row4 w B a b c d) (v : Value) : Row4 (w.setCell ⟨B, 2, none⟩ v) B a b v d := by
  obtain ⟨t, h⟩ := h; exact ⟨t, by simp [World.setCell, Array.getElem?_modify, h]⟩
theorem Row4.set3 {B : Nat} {a b c d : Value} (h : Row4 w B a b c d) (v : Value) : Row4 (w.setCell ⟨B, 3, none⟩ v) B a b c v := by
  obtain ⟨t, h⟩ := h; exact ⟨t, by simp [World.setCell, Array.getElem?_modify, h]⟩
theorem Tims.put (h : Tims w O x y o0 o1 o2 o3 w') (v : Value) (i : Nat) {p0 p1 p2 p3 : Value} (hr : Row4 (w'.setCell ⟨O, i, none⟩ v) O p0 p1 p2 p3) :
    Tims w O x y p0 p1 p2 p3 (w'.setCell ⟨O, i, none⟩ v).drew := by
  have hO := h.hO
  exact ⟨(h.rx.other (by simp; omega) v).drew, (h.ry.other (by simp; omega) v).drew, (h.rr.other (by simp; omega) v).drew, hr.drew, hO, (h.lo.setCell (by simp; omega) v).drew⟩
end
/-- The calls for one entry of a product. -/
def EntOk (a b c d p q r s u v : Nat) : Prop := ∃ x1 y1 x2 y2, (∀ w, Calls Try.prog 123 #[.complex .f32 a b, .complex .f32 c d] w fun e w' => e = .returned (.complex .f32 x1 y1) ∧ w = w') ∧
  (∀ w, Calls Try.prog 123 #[.complex .f32 p q, .complex .f32 r s] w fun e w' => e = .returned (.complex .f32 x2 y2) ∧ w = w') ∧ (∀ w, Calls Try.prog 122 #[.complex .f32 x1 y1, .complex .f32 x2 y2] w fun e w' => e = .returned (.complex .f32 u v) ∧ w = w')
set_option maxRecDepth 100000 in
set_option maxHeartbeats 4000000 in
theorem times_walk (x y u : T8) (w : World) (h00 : EntOk x.a x.b y.a y.b x.c x.d y.e y.f u.a u.b) (h01 : EntOk x.a x.b y.c y.d x.c x.d y.g y.h u.c u.d)
    (h10 : EntOk x.e x.f y.a y.b x.g x.h y.e y.f u.e u.f) (h11 : EntOk x.e x.f y.c y.d x.g x.h y.g y.h u.g u.h) : Calls Try.prog 95 #[x.val, y.val] w (MadeT u w) := by
  obtain ⟨a, b, c, d, e, f, g, k⟩ := x
  obtain ⟨a', b', c', d', e', f', g', k'⟩ := y
  obtain ⟨u0, u1, u2, u3, u4, u5, u6, u7⟩ := u
  obtain ⟨x100, y100, x200, y200, A, B, C⟩ := h00
  have A00 := Lib.hid A; have B00 := Lib.hid B; have C00 := Lib.hid C; clear A B C
  obtain ⟨x101, y101, x201, y201, A, B, C⟩ := h01
  have A01 := Lib.hid A; have B01 := Lib.hid B; have C01 := Lib.hid C; clear A B C
  obtain ⟨x110, y110, x210, y210, A, B, C⟩ := h10
  have A10 := Lib.hid A; have B10 := Lib.hid B; have C10 := Lib.hid C; clear A B C
  obtain ⟨x111, y111, x211, y211, A, B, C⟩ := h11
  have A11 := Lib.hid A; have B11 := Lib.hid B; have C11 := Lib.hid C; clear A B C
  have T0 := Lib.hid (Tims.start w a b c d e f g k a' b' c' d' e' f' g' k')
  unfold MadeT T8.val quad
  dsimp only at *
  go_enter Try.func95, Try.ntmps95
  go_wp2
  generalize ((((w.alloc (.cells #[.complex .f32 a b, .complex .f32 c d, .complex .f32 e f, .complex .f32 g k] 51)).alloc (.cells #[.complex .f32 a' b', .complex .f32 c' d', .complex .f32 e' f', .complex .f32 g' k'] 51)).alloc (.cells #[.complex .f32 0 0, .complex .f32 0 0, .complex .f32 0 0, .complex .f32 0 0] 51)).alloc (.cells #[.complex .f32 0 0, .complex .f32 0 0, .complex .f32 0 0, .complex .f32 0 0] 51)) = w0 at T0 ⊢
  obtain ⟨O, hO⟩ : ∃ O, w.heap.size + 1 + 1 + 1 = O := ⟨_, rfl⟩
  rw [hO] at T0 ⊢
  have hO1 : w.heap.size ≠ O := by omega
  have hO2 : w.heap.size + 1 ≠ O := by omega
  have hO3 : w.heap.size + 1 + 1 ≠ O := by omega
  have hO4 : O ≠ w.heap.size := by omega
  have hO5 : O ≠ w.heap.size + 1 := by omega
  clear hO
  refine wp_loop_rounds 3 ?_
  rw [rounds_succ]
  go_wp2
  refine wp_loop_rounds 3 ?_
  rw [rounds_succ]
  obtain ⟨c0, c1, c2, c3⟩ := T0.out.rx.cells
  obtain ⟨d0, d1, d2, d3⟩ := T0.out.ry.cells
  have g0 := T0.out.ro.frozen 0
  obtain ⟨e0, e1, e2, e3⟩ := T0.out.ro.cells
  go_wp2_with fail
  go_region_held3 (fun w' => w'.cell? ⟨w.heap.size, 0, none⟩ = some (.complex .f32 a b) ∧ w'.cell? ⟨w.heap.size, 1, none⟩ = some (.complex .f32 c d) ∧ w'.cell? ⟨w.heap.size, 2, none⟩ = some (.complex .f32 e f) ∧ w'.cell? ⟨w.heap.size, 3, none⟩ = some (.complex .f32 g k) ∧ w'.cell? ⟨w.heap.size + 1, 0, none⟩ = some (.complex .f32 a' b') ∧ w'.cell? ⟨w.heap.size + 1, 1, none⟩ = some (.complex .f32 c' d') ∧ w'.cell? ⟨w.heap.size + 1, 2, none⟩ = some (.complex .f32 e' f') ∧ w'.cell? ⟨w.heap.size + 1, 3, none⟩ = some (.complex .f32 g' k')) (go_keep) (first | (go_at_call_of 123 (Value.complex FloatKind.f32 a b); refine (A00.out _).mono ?_; rintro e' w' ⟨rfl, rfl⟩) | (go_at_call_of 123 (Value.complex FloatKind.f32 c d); refine (B00.out _).mono ?_; rintro e' w' ⟨rfl, rfl⟩) | (go_at_call 122; refine (C00.out _).mono ?_; rintro e' w' ⟨rfl, rfl⟩))
  have T1 := Lib.hid (T0.out.put (.complex .f32 u0 u1) 0 (T0.out.ro.set0 (.complex .f32 u0 u1)))
  clear T0 c0 c1 c2 c3 d0 d1 d2 d3 g0 e0 e1 e2 e3
  generalize World.drew _ = w1 at T1 ⊢
  go_wp2_with fail
  rw [rounds_succ]
  obtain ⟨c0, c1, c2, c3⟩ := T1.out.rx.cells
  obtain ⟨d0, d1, d2, d3⟩ := T1.out.ry.cells
  have g0 := T1.out.ro.frozen 1
  obtain ⟨e0, e1, e2, e3⟩ := T1.out.ro.cells
  go_wp2_with fail
  go_region_held3 (fun w' => w'.cell? ⟨w.heap.size, 0, none⟩ = some (.complex .f32 a b) ∧ w'.cell? ⟨w.heap.size, 1, none⟩ = some (.complex .f32 c d) ∧ w'.cell? ⟨w.heap.size, 2, none⟩ = some (.complex .f32 e f) ∧ w'.cell? ⟨w.heap.size, 3, none⟩ = some (.complex .f32 g k) ∧ w'.cell? ⟨w.heap.size + 1, 0, none⟩ = some (.complex .f32 a' b') ∧ w'.cell? ⟨w.heap.size + 1, 1, none⟩ = some (.complex .f32 c' d') ∧ w'.cell? ⟨w.heap.size + 1, 2, none⟩ = some (.complex .f32 e' f') ∧ w'.cell? ⟨w.heap.size + 1, 3, none⟩ = some (.complex .f32 g' k')) (go_keep) (first | (go_at_call_of 123 (Value.complex FloatKind.f32 a b); refine (A01.out _).mono ?_; rintro e' w' ⟨rfl, rfl⟩) | (go_at_call_of 123 (Value.complex FloatKind.f32 c d); refine (B01.out _).mono ?_; rintro e' w' ⟨rfl, rfl⟩) | (go_at_call 122; refine (C01.out _).mono ?_; rintro e' w' ⟨rfl, rfl⟩))
  have T2 := Lib.hid (T1.out.put (.complex .f32 u2 u3) 1 (T1.out.ro.set1 (.complex .f32 u2 u3)))
  clear T1 c0 c1 c2 c3 d0 d1 d2 d3 g0 e0 e1 e2 e3
  generalize World.drew _ = w2 at T2 ⊢
  go_wp2_with fail
  rw [rounds_succ]
  go_wp2_with fail
  rw [rounds_succ]
  go_wp2_with fail
  refine wp_loop_rounds 3 ?_
  rw [rounds_succ]
  obtain ⟨c0, c1, c2, c3⟩ := T2.out.rx.cells
  obtain ⟨d0, d1, d2, d3⟩ := T2.out.ry.cells
  have g0 := T2.out.ro.frozen 2
  obtain ⟨e0, e1, e2, e3⟩ := T2.out.ro.cells
  go_wp2_with fail
  go_region_held3 (fun w' => w'.cell? ⟨w.heap.size, 0, none⟩ = some (.complex .f32 a b) ∧ w'.cell? ⟨w.heap.size, 1, none⟩ = some (.complex .f32 c d) ∧ w'.cell? ⟨w.heap.size, 2, none⟩ = some (.complex .f32 e f) ∧ w'.cell? ⟨w.heap.size, 3, none⟩ = some (.complex .f32 g k) ∧ w'.cell? ⟨w.heap.size + 1, 0, none⟩ = some (.complex .f32 a' b') ∧ w'.cell? ⟨w.heap.size + 1, 1, none⟩ = some (.complex .f32 c' d') ∧ w'.cell? ⟨w.heap.size + 1, 2, none⟩ = some (.complex .f32 e' f') ∧ w'.cell? ⟨w.heap.size + 1, 3, none⟩ = some (.complex .f32 g' k')) (go_keep) (first | (go_at_call_of 123 (Value.complex FloatKind.f32 e f); refine (A10.out _).mono ?_; rintro e' w' ⟨rfl, rfl⟩) | (go_at_call_of 123 (Value.complex FloatKind.f32 g k); refine (B10.out _).mono ?_; rintro e' w' ⟨rfl, rfl⟩) | (go_at_call 122; refine (C10.out _).mono ?_; rintro e' w' ⟨rfl, rfl⟩))
  have T3 := Lib.hid (T2.out.put (.complex .f32 u4 u5) 2 (T2.out.ro.set2 (.complex .f32 u4 u5)))
  clear T2 c0 c1 c2 c3 d0 d1 d2 d3 g0 e0 e1 e2 e3
  generalize World.drew _ = w3 at T3 ⊢
  go_wp2_with fail
  rw [rounds_succ]
  obtain ⟨c0, c1, c2, c3⟩ := T3.out.rx.cells
  obtain ⟨d0, d1, d2, d3⟩ := T3.out.ry.cells
  have g0 := T3.out.ro.frozen 3
  obtain ⟨e0, e1, e2, e3⟩ := T3.out.ro.cells
  go_wp2_with fail
  go_region_held3 (fun w' => w'.cell? ⟨w.heap.size, 0, none⟩ = some (.complex .f32 a b) ∧ w'.cell? ⟨w.heap.size, 1, none⟩ = some (.complex .f32 c d) ∧ w'.cell? ⟨w.heap.size, 2, none⟩ = some (.complex .f32 e f) ∧ w'.cell? ⟨w.heap.size, 3, none⟩ = some (.complex .f32 g k) ∧ w'.cell? ⟨w.heap.size + 1, 0, none⟩ = some (.complex .f32 a' b') ∧ w'.cell? ⟨w.heap.size + 1, 1, none⟩ = some (.complex .f32 c' d') ∧ w'.cell? ⟨w.heap.size + 1, 2, none⟩ = some (.complex .f32 e' f') ∧ w'.cell? ⟨w.heap.size + 1, 3, none⟩ = some (.complex .f32 g' k')) (go_keep) (first | (go_at_call_of 123 (Value.complex FloatKind.f32 e f); refine (A11.out _).mono ?_; rintro e' w' ⟨rfl, rfl⟩) | (go_at_call_of 123 (Value.complex FloatKind.f32 g k); refine (B11.out _).mono ?_; rintro e' w' ⟨rfl, rfl⟩) | (go_at_call 122; refine (C11.out _).mono ?_; rintro e' w' ⟨rfl, rfl⟩))
  have T4 := Lib.hid (T3.out.put (.complex .f32 u6 u7) 3 (T3.out.ro.set3 (.complex .f32 u6 u7)))
  clear T3 c0 c1 c2 c3 d0 d1 d2 d3 g0 e0 e1 e2 e3
  generalize World.drew _ = w4 at T4 ⊢
  go_wp2_with fail
  rw [rounds_succ]
  go_wp2_with fail
  rw [rounds_succ]
  obtain ⟨c0, c1, c2, c3⟩ := T4.out.ro.cells
  obtain ⟨d0, d1, d2, d3⟩ := T4.out.rr.cells
  have g0 := T4.out.rr.frozen 0
  have g1 := T4.out.rr.frozen 1
  have g2 := T4.out.rr.frozen 2
  have g3 := T4.out.rr.frozen 3
  go_wp2
  obtain ⟨k0, k1, k2, k3⟩ := (T4.out.rr.put (.complex .f32 u0 u1) (.complex .f32 u2 u3) (.complex .f32 u4 u5) (.complex .f32 u6 u7)).cells
  refine bodyPost_ret (v := .agg #[.complex .f32 u0 u1, .complex .f32 u2 u3, .complex .f32 u4 u5, .complex .f32 u6 u7]) (by simp [results, Try.results95, go_sem, k0, k1, k2, k3]) rfl ?_
  exact ⟨rfl, below_set4 T4.out.lo (by omega) _ _ _ _⟩
end Go.Proofs.Ytkfahacnanlnfaa
