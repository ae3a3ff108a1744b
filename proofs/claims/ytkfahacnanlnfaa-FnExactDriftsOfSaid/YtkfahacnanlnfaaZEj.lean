/- Walks: the table of a pulse, the unit, whether a table is one: the reference's side. -/
/- Walks: unit, renewal: the reference's side. -/
import Derived.Test.YtkfahacnanlnfaaZMe
namespace Go.Proofs.Ytkfahacnanlnfaa
open Go.RowKit Ieee
attribute [local go_sem ↓] Go.wp_at_zero Go.wp_at_succ

theorem l03About_val (axis : Int) (c s : Nat) (t : T8) (w : World) (h : about axis c s = t) : Calls Try.prog 125 #[.int .i64 axis, .float .f32 c, .float .f32 s] w fun e w' => e = .returned (.agg #[.complex .f32 t.a t.b, .complex .f32 t.c t.d, .complex .f32 t.e t.f, .complex .f32 t.g t.h]) ∧ Below w.heap.size w w' := by
  rw [← h]; exact l03About_any axis c s w
theorem l03Adjoint_val (a b c d e f g k : Nat) (w : World) : Calls Try.prog 126 #[.agg #[.complex .f32 a b, .complex .f32 c d, .complex .f32 e f, .complex .f32 g k]] w fun e' w' => e' = .returned (.agg #[.complex .f32 a (ng b), .complex .f32 e (ng f), .complex .f32 c (ng d), .complex .f32 g (ng k)]) ∧ Below w.heap.size w w' :=
  l03Adjoint_any ⟨a, b, c, d, e, f, g, k⟩ w
/-- Block B is a pulse. -/
def PuAt (w : World) (B : Nat) (a h : Int) (b : Bool) : Prop := ∃ t, w.heap[B]? = some (.cells #[.int .i64 a, .int .i64 h, .bool b] t (0, 0))
theorem PuAt.cells {w : World} {B : Nat} {a h : Int} {b : Bool} (x : PuAt w B a h b) : w.cell? ⟨B, 0, none⟩ = some (.int .i64 a) ∧ w.cell? ⟨B, 1, none⟩ = some (.int .i64 h) ∧ w.cell? ⟨B, 2, none⟩ = some (.bool b) := by
  obtain ⟨t, x⟩ := x
  refine ⟨?_, ?_, ?_⟩ <;> simp [World.cell?, x]
theorem PuAt.lt {w : World} {B : Nat} {a h : Int} {b : Bool} (x : PuAt w B a h b) : B < w.heap.size := by
  obtain ⟨t, x⟩ := x; exact (Array.getElem?_eq_some_iff.1 x).1
theorem PuAt.below {w w' : World} {B K : Nat} {a h : Int} {b : Bool} (x : PuAt w B a h b) (hb : Below K w w') (hK : B < K) : PuAt w' B a h b := by
  obtain ⟨t, x⟩ := x; exact ⟨t, (hb.block B hK).trans x⟩
theorem PuAt.alloc {w : World} {B : Nat} {a h : Int} {b : Bool} (x : PuAt w B a h b) (o : Obj) : PuAt (w.alloc o) B a h b := by
  have hl := x.lt
  obtain ⟨t, x⟩ := x; exact ⟨t, (Below.heap_alloc _ _ _ hl).trans x⟩
theorem puAt_new (w : World) (a h : Int) (b : Bool) (t : TypeId) : PuAt (w.alloc (.cells #[.int .i64 a, .int .i64 h, .bool b] t)) w.heap.size a h b := ⟨t, heap_alloc_new w _⟩
set_option maxHeartbeats 1000000 in
theorem l05Pulse_any (a : Int) (k : Nat) (b : Bool) (w : World) (hk : k ≤ 24) : Calls Try.prog 96 #[.agg #[.int .i64 a, .int .i64 (k : Int), .bool b]] w (MadeT (plT ⟨a, (k : Int), b⟩) w) := by
  have K1 := Lib.hid (fun w => l03Halved_any k w hk)
  obtain ⟨t, ht⟩ : ∃ t, about a (hv k).1 (hv k).2 = t := ⟨_, rfl⟩
  have K2 := Lib.hid (fun w => l03About_val a (hv k).1 (hv k).2 t w ht)
  have hp : plT ⟨a, (k : Int), b⟩ = if b then adjT t else t := by unfold plT; rw [← ht]; rfl
  rw [hp]
  clear hp ht
  obtain ⟨t0, t1, t2, t3, t4, t5, t6, t7⟩ := t
  dsimp only at K2
  obtain ⟨c, hc⟩ : ∃ c, (hv k).1 = c := ⟨_, rfl⟩
  obtain ⟨s, hs⟩ : ∃ s, (hv k).2 = s := ⟨_, rfl⟩
  rw [hc, hs] at K1 K2
  clear hc hs
  have X := row4_new (w.alloc (.cells #[.int .i64 a, .int .i64 (k : Int), .bool b] 80)) (.complex .f32 0 0) (.complex .f32 0 0) (.complex .f32 0 0) (.complex .f32 0 0) 51
  simp only [World.size_alloc] at X
  have b0 : Below w.heap.size w ((w.alloc (.cells #[.int .i64 a, .int .i64 (k : Int), .bool b] 80)).alloc (.cells #[.complex .f32 0 0, .complex .f32 0 0, .complex .f32 0 0, .complex .f32 0 0] 51)) := ((Below.refl _ _).alloc (Nat.le_refl _) _).alloc (by simp) _
  have P0 := (puAt_new w a (k : Int) b 80).alloc (.cells #[.complex .f32 0 0, .complex .f32 0 0, .complex .f32 0 0, .complex .f32 0 0] 51)
  have X0 := Lib.hid X; clear X
  have B0 := Lib.hid b0; clear b0
  have HP := Lib.hid P0; clear P0
  unfold MadeT T8.val quad
  go_enter Try.func96, Try.ntmps96
  go_wp2_with fail
  refine (K1.out _).mono ?_
  rintro e w' ⟨rfl, rfl⟩
  go_wp2_with fail
  refine (K2.out _).mono ?_
  rintro e w1 ⟨rfl, b1⟩
  have X1 := Lib.hid (X0.out.below b1 X0.out.lt)
  have P1 := Lib.hid (HP.out.below b1 HP.out.lt)
  have B1 := Lib.hid (B0.out.trans (b1.mono B0.out.size))
  have Y1 := Lib.hid (row4_new w1 (.complex .f32 t0 t1) (.complex .f32 t2 t3) (.complex .f32 t4 t5) (.complex .f32 t6 t7) 51)
  have X2 := Lib.hid (X1.out.alloc (.cells #[.complex .f32 t0 t1, .complex .f32 t2 t3, .complex .f32 t4 t5, .complex .f32 t6 t7] 51))
  have P2 := Lib.hid (P1.out.alloc (.cells #[.complex .f32 t0 t1, .complex .f32 t2 t3, .complex .f32 t4 t5, .complex .f32 t6 t7] 51))
  have B2 := Lib.hid (B1.out.alloc B1.out.size (.cells #[.complex .f32 t0 t1, .complex .f32 t2 t3, .complex .f32 t4 t5, .complex .f32 t6 t7] 51))
  obtain ⟨p0, p1, p2⟩ := P1.out.cells
  obtain ⟨q0, q1, q2⟩ := P2.out.cells
  clear b1 HP X0 B0
  have n1 : w.heap.size ≠ w1.heap.size := by have := P1.out.lt; omega
  have n2 : w.heap.size + 1 ≠ w1.heap.size := by have := X1.out.lt; omega
  cases b with
  | true =>
    go_wp2_with fail
    refine (l03Adjoint_val t0 t1 t2 t3 t4 t5 t6 t7 _).mono ?_
    rintro e w3 ⟨rfl, b3⟩
    have X3 := Lib.hid (X2.out.below b3 X2.out.lt)
    have B3 := Lib.hid (B2.out.trans (b3.mono B2.out.size))
    clear b3 p0 p1 p2 q0 q1 q2
    have g0 := X3.out.frozen 0
    have g1 := X3.out.frozen 1
    have g2 := X3.out.frozen 2
    have g3 := X3.out.frozen 3
    obtain ⟨c0, c1, c2, c3⟩ := X3.out.cells
    go_wp2
    obtain ⟨k0, k1, k2, k3⟩ := (X3.out.put (.complex .f32 t0 (ng t1)) (.complex .f32 t4 (ng t5)) (.complex .f32 t2 (ng t3)) (.complex .f32 t6 (ng t7))).cells
    refine bodyPost_ret (v := .agg #[.complex .f32 t0 (ng t1), .complex .f32 t4 (ng t5), .complex .f32 t2 (ng t3), .complex .f32 t6 (ng t7)]) (by simp [results, Try.results96, go_sem, k0, k1, k2, k3]) rfl ?_
    exact ⟨rfl, below_set4 B3.out (by omega) _ _ _ _⟩
  | false =>
    have g0 := X2.out.frozen 0
    have g1 := X2.out.frozen 1
    have g2 := X2.out.frozen 2
    have g3 := X2.out.frozen 3
    obtain ⟨c0, c1, c2, c3⟩ := X2.out.cells
    obtain ⟨d0, d1, d2, d3⟩ := Y1.out.cells
    go_wp2
    obtain ⟨k0, k1, k2, k3⟩ := (X2.out.put (.complex .f32 t0 t1) (.complex .f32 t2 t3) (.complex .f32 t4 t5) (.complex .f32 t6 t7)).cells
    refine bodyPost_ret (v := .agg #[.complex .f32 t0 t1, .complex .f32 t2 t3, .complex .f32 t4 t5, .complex .f32 t6 t7]) (by simp [results, Try.results96, go_sem, k0, k1, k2, k3]) rfl ?_
    exact ⟨rfl, below_set4 B2.out (by omega) _ _ _ _⟩
end Go.Proofs.Ytkfahacnanlnfaa
namespace Go.Proofs.Ytkfahacnanlnfaa
open Go.RowKit Ieee
attribute [local go_sem ↓] Go.wp_at_zero Go.wp_at_succ

def unitT : T8 := tab 1065353216 0 0 0
theorem l03Table_val (x0 x y z : Nat) (t : T8) (w : World) (h : tab x0 x y z = t) : Calls Try.prog 120 #[.float .f32 x0, .float .f32 x, .float .f32 y, .float .f32 z] w fun e w' => e = .returned (.agg #[.complex .f32 t.a t.b, .complex .f32 t.c t.d, .complex .f32 t.e t.f, .complex .f32 t.g t.h]) ∧ Below w.heap.size w w' := by
  rw [← h]; exact l03Table_any x0 x y z w
theorem l03Unit_any (w : World) : Calls Try.prog 93 #[] w (MadeT unitT w) := by
  obtain ⟨t, ht⟩ : ∃ t, unitT = t := ⟨_, rfl⟩
  have K1 := Lib.hid (fun w => l03Table_val 1065353216 0 0 0 t w ht)
  rw [ht]
  clear ht
  obtain ⟨t0, t1, t2, t3, t4, t5, t6, t7⟩ := t
  dsimp only at K1
  have X0 := Lib.hid (row4_new w (.complex .f32 0 0) (.complex .f32 0 0) (.complex .f32 0 0) (.complex .f32 0 0) 51)
  have B0 := Lib.hid ((Below.refl w.heap.size w).alloc (Nat.le_refl _) (.cells #[.complex .f32 0 0, .complex .f32 0 0, .complex .f32 0 0, .complex .f32 0 0] 51))
  unfold MadeT T8.val quad
  go_enter Try.func93, Try.ntmps93
  go_wp2_with fail
  refine (K1.out _).mono ?_
  rintro e w1 ⟨rfl, b1⟩
  have X3 := Lib.hid (X0.out.below b1 X0.out.lt)
  have B3 := Lib.hid (B0.out.trans (b1.mono B0.out.size))
  clear b1
  have g0 := X3.out.frozen 0
  have g1 := X3.out.frozen 1
  have g2 := X3.out.frozen 2
  have g3 := X3.out.frozen 3
  obtain ⟨c0, c1, c2, c3⟩ := X3.out.cells
  go_wp2
  obtain ⟨k0, k1, k2, k3⟩ := (X3.out.put (.complex .f32 t0 t1) (.complex .f32 t2 t3) (.complex .f32 t4 t5) (.complex .f32 t6 t7)).cells
  refine bodyPost_ret (v := .agg #[.complex .f32 t0 t1, .complex .f32 t2 t3, .complex .f32 t4 t5, .complex .f32 t6 t7]) (by simp [results, Try.results93, go_sem, k0, k1, k2, k3]) rfl ?_
  exact ⟨rfl, below_set4 B3.out (Nat.le_refl _) _ _ _ _⟩

theorem l01Fine_yes (x : Nat) (w : World) (hf : fin32 x = true) : Calls Try.prog 78 #[.float .f32 x] w fun e w' => e = .returned (.bool true) ∧ w = w' := by
  have hop : ∀ t w, (binOp .sub t (.float .f32 x) (.float .f32 x)).run Try.prog w = .ok (.float .f32 0) w := fun t w => run_float_arith w .sub t .f32 x x 0 (sub_self hf)
  have h0 : single.order 0 0 = some .eq := by decide +kernel
  go_enter Try.func78, Try.ntmps78
  go_wp2_with (simp only [hop])
  go_ret
  exact ⟨by simp [FloatKind.format, h0], rfl⟩
theorem l01Whole_yes (a b : Nat) (w : World) (fa : fin32 a = true) (fb : fin32 b = true) : Calls Try.prog 133 #[.complex .f32 a b] w fun e w' => e = .returned (.bool true) ∧ w = w' := by
  go_enter Try.func133, Try.ntmps133
  go_wp2_with fail
  refine (l01Fine_yes a _ fa).mono ?_
  rintro e w' ⟨rfl, rfl⟩
  go_wp2_with fail
  refine (l01Fine_yes b _ fb).mono ?_
  rintro e w' ⟨rfl, rfl⟩
  go_wp2
  go_ret
  exact ⟨rfl, rfl⟩
theorem l03Is_yes (a b c d e f g k : Nat) (K : Int) (w : World) (h : limT K ⟨a, b, c, d, e, f, g, k⟩) : Calls Try.prog 108 #[.agg #[.complex .f32 a b, .complex .f32 c d, .complex .f32 e f, .complex .f32 g k]] w fun e' w' => e' = .returned (.bool true) ∧ Below w.heap.size w w' := by
  have H := Lib.hid h; clear h
  have X := row4_new w (.complex .f32 a b) (.complex .f32 c d) (.complex .f32 e f) (.complex .f32 g k) 51
  obtain ⟨c0, c1, c2, c3⟩ := X.cells
  clear X
  go_enter Try.func108, Try.ntmps108
  go_wp2_with fail
  refine (l01Whole_yes a b _ H.out.1.1.fin H.out.1.2.fin).mono ?_
  rintro e' w' ⟨rfl, rfl⟩
  go_wp2_with fail
  refine (l01Whole_yes c d _ H.out.2.1.1.fin H.out.2.1.2.fin).mono ?_
  rintro e' w' ⟨rfl, rfl⟩
  go_wp2_with fail
  refine (l01Whole_yes e f _ H.out.2.2.1.1.fin H.out.2.2.1.2.fin).mono ?_
  rintro e' w' ⟨rfl, rfl⟩
  go_wp2_with fail
  refine (l01Whole_yes g k _ H.out.2.2.2.1.fin H.out.2.2.2.2.fin).mono ?_
  rintro e' w' ⟨rfl, rfl⟩
  go_wp2
  go_ret
  exact ⟨rfl, (Below.refl _ _).alloc (Nat.le_refl _) _⟩
/-- The call hands back a table and a code. -/
def MadeT2 (t : T8) (k : Int) (w : World) (e : Ending) (w' : World) : Prop := e = .returned (.tuple #[t.val, .int .i64 k]) ∧ Below w.heap.size w w'
theorem l03Told_yes (a b c d e f g k : Nat) (K : Int) (w : World) (h : limT K ⟨a, b, c, d, e, f, g, k⟩) : Calls Try.prog 136 #[.agg #[.complex .f32 a b, .complex .f32 c d, .complex .f32 e f, .complex .f32 g k]] w fun e' w' => e' = .returned (.tuple #[.agg #[.complex .f32 a b, .complex .f32 c d, .complex .f32 e f, .complex .f32 g k], .int .i64 0]) ∧ Below w.heap.size w w' := by
  have H := Lib.hid h; clear h
  have Y0 := Lib.hid ((row4_new w (.complex .f32 a b) (.complex .f32 c d) (.complex .f32 e f) (.complex .f32 g k) 51).alloc (.cells #[.complex .f32 0 0, .complex .f32 0 0, .complex .f32 0 0, .complex .f32 0 0] 51))
  have X := row4_new (w.alloc (.cells #[.complex .f32 a b, .complex .f32 c d, .complex .f32 e f, .complex .f32 g k] 51)) (.complex .f32 0 0) (.complex .f32 0 0) (.complex .f32 0 0) (.complex .f32 0 0) 51
  simp only [World.size_alloc] at X
  have X0 := Lib.hid X; clear X
  have B0 := Lib.hid (((Below.refl w.heap.size w).alloc (Nat.le_refl _) (.cells #[.complex .f32 a b, .complex .f32 c d, .complex .f32 e f, .complex .f32 g k] 51)).alloc (by simp) (.cells #[.complex .f32 0 0, .complex .f32 0 0, .complex .f32 0 0, .complex .f32 0 0] 51))
  go_enter Try.func136, Try.ntmps136
  go_wp2_with fail
  refine (l03Is_yes a b c d e f g k K _ H.out).mono ?_
  rintro e' w1 ⟨rfl, b1⟩
  have X1 := Lib.hid (X0.out.below b1 X0.out.lt)
  have Y1 := Lib.hid (Y0.out.below b1 Y0.out.lt)
  have B1 := Lib.hid (B0.out.trans (b1.mono B0.out.size))
  clear b1
  obtain ⟨c0, c1, c2, c3⟩ := Y1.out.cells
  obtain ⟨d0, d1, d2, d3⟩ := X1.out.cells
  have g0 := X1.out.frozen 0
  have g1 := X1.out.frozen 1
  have g2 := X1.out.frozen 2
  have g3 := X1.out.frozen 3
  go_wp2
  obtain ⟨k0, k1, k2, k3⟩ := (X1.out.put (.complex .f32 a b) (.complex .f32 c d) (.complex .f32 e f) (.complex .f32 g k)).cells
  refine bodyPost_ret (v := .tuple #[.agg #[.complex .f32 a b, .complex .f32 c d, .complex .f32 e f, .complex .f32 g k], .int .i64 0]) (by simp [results, Try.results136, go_sem, k0, k1, k2, k3]) rfl ?_
  exact ⟨rfl, below_set4 B1.out (by omega) _ _ _ _⟩
theorem l03Part_any (a b n x y : Nat) (w : World) (h : floatBits .quo .f32 a n = some x) (h' : floatBits .quo .f32 b n = some y) : Calls Try.prog 135 #[.complex .f32 a b, .float .f32 n] w fun e w' => e = .returned (.complex .f32 x y) ∧ w = w' := by
  have k1 : ∀ t w, (binOp .quo t (.float .f32 a) (.float .f32 n)).run Try.prog w = .ok (.float .f32 x) w := fun t w => run_float_arith w .quo t .f32 _ _ _ h
  have k2 : ∀ t w, (binOp .quo t (.float .f32 b) (.float .f32 n)).run Try.prog w = .ok (.float .f32 y) w := fun t w => run_float_arith w .quo t .f32 _ _ _ h'
  clear h h'
  go_enter Try.func135, Try.ntmps135
  go_wp2_with (simp only [k1, k2])
  go_ret
  exact ⟨rfl, rfl⟩
end Go.Proofs.Ytkfahacnanlnfaa
