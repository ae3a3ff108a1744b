/- Walks: tables of pulses, the reference's side. -/
import Derived.Test.YtkfahacnanlnfaaZBb
import Derived.Test.YtkfahacnanlnfaaZEe
import Derived.Deep.RegionHeld3
namespace Go.Proofs.Ytkfahacnanlnfaa
open Go.RowKit Ieee

theorem l03Table_any (x0 x y z : Nat) (w : World) : Calls Try.prog 120 #[.float .f32 x0, .float .f32 x, .float .f32 y, .float .f32 z] w fun e w' =>
    e = .returned (quad x0 (ng z) (ng y) (ng x) y (ng x) x0 z) ∧ Below w.heap.size w w' := by
  have h1 := run_neg x
  have h2 := run_neg y
  have h3 := run_neg z
  generalize ng x = nx at *
  generalize ng y = ny at *
  generalize ng z = nz at *
  have X := row4_new w (.complex .f32 0 0) (.complex .f32 0 0) (.complex .f32 0 0) (.complex .f32 0 0) 51
  have b0 : Below w.heap.size w (w.alloc (.cells #[.complex .f32 0 0, .complex .f32 0 0, .complex .f32 0 0, .complex .f32 0 0] 51)) := (Below.refl _ _).alloc (Nat.le_refl _) _
  obtain ⟨c0, c1, c2, c3⟩ := X.cells
  have f0 := X.frozen 0
  have f1 := X.frozen 1
  have f2 := X.frozen 2
  have f3 := X.frozen 3
  have X0 := Lib.hid X; clear X
  have B0 := Lib.hid b0; clear b0
  unfold quad
  go_enter Try.func120, Try.ntmps120
  go_wp2_with (simp only [h1, h2, h3])
  obtain ⟨k0, k1, k2, k3⟩ := (X0.out.put (.complex .f32 x0 nz) (.complex .f32 ny nx) (.complex .f32 y nx) (.complex .f32 x0 z)).cells
  refine bodyPost_ret (v := .agg #[.complex .f32 x0 nz, .complex .f32 ny nx, .complex .f32 y nx, .complex .f32 x0 z]) (by simp [results, Try.results120, go_sem, c0, c1, c2, c3]) rfl ?_
  exact ⟨rfl, (Below.refl _ _).alloc (Nat.le_refl _) _⟩
theorem Row4.drew {w : World} {B : Nat} {a b c d : Value} (h : Row4 w B a b c d) : Row4 w.drew B a b c d := h
/-- A table: the parts of its four entries. -/
structure T8 where
  a : Nat
  b : Nat
  c : Nat
  d : Nat
  e : Nat
  f : Nat
  g : Nat
  h : Nat
def T8.val (t : T8) : Value := quad t.a t.b t.c t.d t.e t.f t.g t.h
def tab (w x y z : Nat) : T8 := ⟨w, ng z, ng y, ng x, y, ng x, w, z⟩
def about (axis : Int) (c s : Nat) : T8 := if axis = 0 then tab c s 0 0 else if axis = 1 then tab c 0 s 0 else tab c 0 0 s
def adjT (t : T8) : T8 := ⟨t.a, ng t.b, t.e, ng t.f, t.c, ng t.d, t.g, ng t.h⟩
/-- The call hands back a table. -/
def MadeT (t : T8) (w : World) (e : Ending) (w' : World) : Prop := e = .returned t.val ∧ Below w.heap.size w w'
theorem quad_store (t : T8) : t.val = .agg #[.complex .f32 t.a t.b, .complex .f32 t.c t.d, .complex .f32 t.e t.f, .complex .f32 t.g t.h] := rfl
theorem l03About_any (axis : Int) (c s : Nat) (w : World) : Calls Try.prog 125 #[.int .i64 axis, .float .f32 c, .float .f32 s] w (MadeT (about axis c s) w) := by
  have k0 := fun w => l03Table_any c s 0 0 w
  have k1 := fun w => l03Table_any c 0 s 0 w
  have k2 := fun w => l03Table_any c 0 0 s w
  have X := row4_new w (.complex .f32 0 0) (.complex .f32 0 0) (.complex .f32 0 0) (.complex .f32 0 0) 51
  have b0 : Below w.heap.size w (w.alloc (.cells #[.complex .f32 0 0, .complex .f32 0 0, .complex .f32 0 0, .complex .f32 0 0] 51)) := (Below.refl _ _).alloc (Nat.le_refl _) _
  have X0 := Lib.hid X; clear X
  have B0 := Lib.hid b0; clear b0
  have n0 : ng 0 = 2147483648 := by decide +kernel
  rw [n0] at k0 k1 k2
  unfold quad at k0 k1 k2
  have K0 := Lib.hid k0; clear k0
  have K1 := Lib.hid k1; clear k1
  have K2 := Lib.hid k2; clear k2
  by_cases a0 : axis = 0
  · subst a0
    have e0 : about 0 c s = ⟨c, 2147483648, 2147483648, ng s, 0, ng s, c, 0⟩ := by unfold about tab; rw [if_pos rfl, n0]
    rw [e0]
    unfold MadeT T8.val quad
    go_enter Try.func125, Try.ntmps125
    go_wp2_with fail
    refine (K0.out _).mono ?_
    rintro e w1 ⟨rfl, b1⟩
    have X1 := Lib.hid (X0.out.below b1 X0.out.lt)
    have B1 := Lib.hid (B0.out.trans (b1.mono B0.out.size)); clear b1
    have g0 := X1.out.frozen 0
    have g1 := X1.out.frozen 1
    have g2 := X1.out.frozen 2
    have g3 := X1.out.frozen 3
    obtain ⟨c0, c1, c2, c3⟩ := X1.out.cells
    go_wp2
    obtain ⟨k0, k1, k2, k3⟩ := (X1.out.put (.complex .f32 c 2147483648) (.complex .f32 2147483648 (ng s)) (.complex .f32 0 (ng s)) (.complex .f32 c 0)).cells
    refine bodyPost_ret (v := .agg #[.complex .f32 c 2147483648, .complex .f32 2147483648 (ng s), .complex .f32 0 (ng s), .complex .f32 c 0]) (by simp [results, Try.results125, go_sem, c0, c1, c2, c3]) rfl ?_
    exact ⟨rfl, below_set4 B1.out (Nat.le_refl _) _ _ _ _⟩
  · by_cases a1 : axis = 1
    · subst a1
      have e0 : about 1 c s = ⟨c, 2147483648, ng s, 2147483648, s, 2147483648, c, 0⟩ := by unfold about tab; rw [if_neg (by decide), if_pos rfl, n0]
      rw [e0]
      unfold MadeT T8.val quad
      go_enter Try.func125, Try.ntmps125
      go_wp2_with fail
      refine (K1.out _).mono ?_
      rintro e w1 ⟨rfl, b1⟩
      have X1 := Lib.hid (X0.out.below b1 X0.out.lt)
      have B1 := Lib.hid (B0.out.trans (b1.mono B0.out.size)); clear b1
      have g0 := X1.out.frozen 0
      have g1 := X1.out.frozen 1
      have g2 := X1.out.frozen 2
      have g3 := X1.out.frozen 3
      obtain ⟨c0, c1, c2, c3⟩ := X1.out.cells
      go_wp2
      obtain ⟨k0, k1, k2, k3⟩ := (X1.out.put (.complex .f32 c 2147483648) (.complex .f32 (ng s) 2147483648) (.complex .f32 s 2147483648) (.complex .f32 c 0)).cells
      refine bodyPost_ret (v := .agg #[.complex .f32 c 2147483648, .complex .f32 (ng s) 2147483648, .complex .f32 s 2147483648, .complex .f32 c 0]) (by simp [results, Try.results125, go_sem, c0, c1, c2, c3]) rfl ?_
      exact ⟨rfl, below_set4 B1.out (Nat.le_refl _) _ _ _ _⟩
    · have e0 : about axis c s = ⟨c, ng s, 2147483648, 2147483648, 0, 2147483648, c, s⟩ := by unfold about tab; rw [if_neg a0, if_neg a1, n0]
      rw [e0]
      have q0 : (axis == 0) = false := by simpa using a0
      have q1 : (axis == 1) = false := by simpa using a1
      unfold MadeT T8.val quad
      go_enter Try.func125, Try.ntmps125
      go_wp2_with fail
      refine (K2.out _).mono ?_
      rintro e w1 ⟨rfl, b1⟩
      have X1 := Lib.hid (X0.out.below b1 X0.out.lt)
      have B1 := Lib.hid (B0.out.trans (b1.mono B0.out.size)); clear b1
      have g0 := X1.out.frozen 0
      have g1 := X1.out.frozen 1
      have g2 := X1.out.frozen 2
      have g3 := X1.out.frozen 3
      obtain ⟨c0, c1, c2, c3⟩ := X1.out.cells
      go_wp2
      obtain ⟨k0, k1, k2, k3⟩ := (X1.out.put (.complex .f32 c (ng s)) (.complex .f32 2147483648 2147483648) (.complex .f32 0 2147483648) (.complex .f32 c s)).cells
      refine bodyPost_ret (v := .agg #[.complex .f32 c (ng s), .complex .f32 2147483648 2147483648, .complex .f32 0 2147483648, .complex .f32 c s]) (by simp [results, Try.results125, go_sem, c0, c1, c2, c3]) rfl ?_
      exact ⟨rfl, below_set4 B1.out (Nat.le_refl _) _ _ _ _⟩
theorem l03Adjoint_any (t : T8) (w : World) : Calls Try.prog 126 #[t.val] w (MadeT (adjT t) w) := by
  obtain ⟨a, b, c, d, e, f, g, h⟩ := t
  have Y := (row4_new w (.complex .f32 a b) (.complex .f32 c d) (.complex .f32 e f) (.complex .f32 g h) 51).alloc (.cells #[.complex .f32 0 0, .complex .f32 0 0, .complex .f32 0 0, .complex .f32 0 0] 51)
  have X := row4_new (w.alloc (.cells #[.complex .f32 a b, .complex .f32 c d, .complex .f32 e f, .complex .f32 g h] 51)) (.complex .f32 0 0) (.complex .f32 0 0) (.complex .f32 0 0) (.complex .f32 0 0) 51
  simp only [World.size_alloc] at X
  have b0 : Below w.heap.size w ((w.alloc (.cells #[.complex .f32 a b, .complex .f32 c d, .complex .f32 e f, .complex .f32 g h] 51)).alloc (.cells #[.complex .f32 0 0, .complex .f32 0 0, .complex .f32 0 0, .complex .f32 0 0] 51)) := ((Below.refl _ _).alloc (Nat.le_refl _) _).alloc (by simp) _
  have X0 := Lib.hid X
  have B0 := Lib.hid b0
  have Y0 := Lib.hid Y
  obtain ⟨c0, c1, c2, c3⟩ := Y.cells
  have g0 := X.frozen 0
  have g1 := X.frozen 1
  have g2 := X.frozen 2
  have g3 := X.frozen 3
  obtain ⟨d0, d1, d2, d3⟩ := X.cells
  clear X Y b0
  obtain ⟨w0, hw0⟩ : ∃ w0, (w.alloc (.cells #[.complex .f32 a b, .complex .f32 c d, .complex .f32 e f, .complex .f32 g h] 51)).alloc (.cells #[.complex .f32 0 0, .complex .f32 0 0, .complex .f32 0 0, .complex .f32 0 0] 51) = w0 := ⟨_, rfl⟩
  rw [hw0] at X0 B0 Y0 c0 c1 c2 c3 g0 g1 g2 g3 d0 d1 d2 d3
  unfold MadeT adjT T8.val quad
  go_enter Try.func126, Try.ntmps126
  go_wp2_with fail
  clear hw0
  go_region_held3 (fun w' => w'.cell? ⟨w.heap.size, 0, none⟩ = some (.complex .f32 a b) ∧ w'.cell? ⟨w.heap.size, 1, none⟩ = some (.complex .f32 c d) ∧ w'.cell? ⟨w.heap.size, 2, none⟩ = some (.complex .f32 e f) ∧ w'.cell? ⟨w.heap.size, 3, none⟩ = some (.complex .f32 g h)) (go_keep) ((go_at_call 137; refine (l01Conj_any _ _ _).mono ?_; rintro e' w' ⟨rfl, rfl⟩))
  all_goals
    obtain ⟨k0, k1, k2, k3⟩ := (X0.out.put (.complex .f32 a (ng b)) (.complex .f32 e (ng f)) (.complex .f32 c (ng d)) (.complex .f32 g (ng h))).drew.cells
    clear d0 d1 d2 d3
    go_wp2
    refine bodyPost_ret (v := .agg #[.complex .f32 a (ng b), .complex .f32 e (ng f), .complex .f32 c (ng d), .complex .f32 g (ng h)]) (by simp [results, Try.results126, go_sem, k0, k1, k2, k3]) rfl ?_
    exact ⟨rfl, (below_set4 B0.out (Nat.le_succ _) _ _ _ _).drew⟩
end Go.Proofs.Ytkfahacnanlnfaa
