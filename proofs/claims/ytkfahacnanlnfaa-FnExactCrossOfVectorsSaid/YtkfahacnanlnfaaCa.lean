/- The cross product: the small functions. -/
import Derived.Test.YtkfahacnanlnfaaV
import Derived.Deep.RegionHeld3
namespace Go.Proofs.Ytkfahacnanlnfaa
open Go.RowKit Ieee

theorem ops_any (x y : Nat) : (∀ t w, (binOp .mul t (.float .f32 x) (.float .f32 y)).run Try.prog w = .ok (.float .f32 (opV .mul w x y)) (opW .mul w x y)) ∧ (∀ t w, (binOp .sub t (.float .f32 x) (.float .f32 y)).run Try.prog w = .ok (.float .f32 (opV .sub w x y)) (opW .sub w x y)) :=
  ⟨fun t w => run_op .mul w x y t (.inr (.inr rfl)), fun t w => run_op .sub w x y t (.inr (.inl rfl))⟩
/-- One part of the cross product, as the reference reckons it. -/
def PartOf (a b c d r : Nat) : Prop := ∃ w, r = opV .sub w (op32 .mul a b) (op32 .mul c d)
theorem l09Part_any (a b c d : Nat) (w : World) (fa : fin32 a = true) (fb : fin32 b = true) (fc : fin32 c = true) (fd : fin32 d = true) :
    Calls Try.prog 72 #[.float .f32 a, .float .f32 b, .float .f32 c, .float .f32 d] w fun e w' => ∃ r, e = .returned (.float .f32 r) ∧ PartOf a b c d r ∧ Below w.heap.size w w' := by
  have m0 : ∀ t w, (binOp .mul t (.float .f32 a) (.float .f32 b)).run Try.prog w = .ok (.float .f32 (op32 .mul a b)) w := fun t w => run_float_arith w .mul t .f32 a b _ (op_fin rfl fa fb).1
  have m1 : ∀ t w, (binOp .mul t (.float .f32 c) (.float .f32 d)).run Try.prog w = .ok (.float .f32 (op32 .mul c d)) w := fun t w => run_float_arith w .mul t .f32 c d _ (op_fin rfl fc fd).1
  have sb : ∀ t w x y, (binOp .sub t (.float .f32 x) (.float .f32 y)).run Try.prog w = .ok (.float .f32 (opV .sub w x y)) (opW .sub w x y) := fun t w x y => run_op .sub w x y t (.inr (.inl rfl))
  unfold PartOf
  generalize op32 .mul a b = p0 at *
  generalize op32 .mul c d = p1 at *
  go_enter Try.func72, Try.ntmps72
  go_wp2_with (simp only [m0, m1, sb])
  go_ret
  exact ⟨_, rfl, ⟨_, rfl⟩, opW_below _ _ _ _ _ (Below.refl _ _)⟩

theorem below_set3 {w w1 : World} {B : Nat} (h : Below w.heap.size w w1) (hB : w.heap.size ≤ B) (u0 u1 u2 : Value) : Below w.heap.size w (((w1.setCell ⟨B, 0, none⟩ u0).setCell ⟨B, 1, none⟩ u1).setCell ⟨B, 2, none⟩ u2) :=
  ((h.setCell (p := ⟨B, 0, none⟩) hB _).setCell (p := ⟨B, 1, none⟩) hB _).setCell (p := ⟨B, 2, none⟩) hB _
theorem set3 {w : World} {B a b c : Nat} (h : Box3 w B a b c) (x y z : Nat) : Box3 (((w.setCell ⟨B, 0, none⟩ (.float .f32 x)).setCell ⟨B, 1, none⟩ (.float .f32 y)).setCell ⟨B, 2, none⟩ (.float .f32 z)) B x y z :=
  ((h.set x).1.set y).2.1 |>.set z |>.2.2
def zv (f : Bool) (x : Nat) : Nat := if f then x else 0
theorem l09Told_any (a b c : Nat) (w : World) : Calls Try.prog 71 #[vec a b c] w fun e w' => e = .returned (.tuple #[vec (zv (finV a b c) a) (zv (finV a b c) b) (zv (finV a b c) c), .int .i64 (if finV a b c then 0 else 3)]) ∧ Below w.heap.size w w' := by
  obtain ⟨X, Y, b0⟩ := boxes w a b c 0 0 0
  cases f : finV a b c with
  | false =>
    show Calls _ _ _ _ fun e w' => e = .returned (.tuple #[vec 0 0 0, .int .i64 3]) ∧ _
    unfold vec
    go_enter Try.func71, Try.ntmps71
    go_wp2_with fail
    refine (l09Is_any a b c _).mono ?_
    rintro e w1 ⟨rfl, b1⟩
    rw [f]
    have B1 := Lib.hid (b0.trans (b1.mono b0.size))
    have Y1 := Lib.hid (Y.below b1 Y.lt)
    clear X Y b0 b1
    obtain ⟨e0, e1, e2⟩ := Y1.out.cells
    have g0 := Y1.out.frozen 0
    have g1 := Y1.out.frozen 1
    have g2 := Y1.out.frozen 2
    go_wp2
    obtain ⟨k0, k1, k2⟩ := (set3 Y1.out 0 0 0).cells
    refine bodyPost_ret (v := .tuple #[.agg #[.float .f32 0, .float .f32 0, .float .f32 0], .int .i64 3]) (by simp [results, Try.results71, go_sem, e0, e1, e2]) rfl ?_
    exact ⟨rfl, below_set3 B1.out (Nat.le_succ _) _ _ _⟩
  | true =>
    show Calls _ _ _ _ fun e w' => e = .returned (.tuple #[vec a b c, .int .i64 0]) ∧ _
    unfold vec
    go_enter Try.func71, Try.ntmps71
    go_wp2_with fail
    refine (l09Is_any a b c _).mono ?_
    rintro e w1 ⟨rfl, b1⟩
    rw [f]
    have B1 := Lib.hid (b0.trans (b1.mono b0.size))
    have X1 := Lib.hid (X.below b1 X.lt)
    have Y1 := Lib.hid (Y.below b1 Y.lt)
    clear X Y b0 b1
    obtain ⟨c0, c1, c2⟩ := X1.out.cells
    obtain ⟨e0, e1, e2⟩ := Y1.out.cells
    have g0 := Y1.out.frozen 0
    have g1 := Y1.out.frozen 1
    have g2 := Y1.out.frozen 2
    go_wp2
    obtain ⟨k0, k1, k2⟩ := (set3 Y1.out a b c).cells
    refine bodyPost_ret (v := .tuple #[.agg #[.float .f32 a, .float .f32 b, .float .f32 c], .int .i64 0]) (by simp [results, Try.results71, go_sem, e0, e1, e2]) rfl ?_
    exact ⟨rfl, below_set3 B1.out (Nat.le_succ _) _ _ _⟩
theorem l00Vector_any (a b c : Nat) (w : World) : Calls Try.prog 37 #[vec a b c] w fun e w' => e = .returned (vec (cz a) (cz b) (cz c)) ∧ Below w.heap.size w w' := by
  obtain ⟨X, Y, b0⟩ := boxes w a b c 0 0 0
  obtain ⟨c0, c1, c2⟩ := X.cells
  obtain ⟨e0, e1, e2⟩ := Y.cells
  have g0 := Y.frozen 0
  have g1 := Y.frozen 1
  have g2 := Y.frozen 2
  have Y1 := Lib.hid Y; clear Y
  have B1 := Lib.hid b0; clear b0
  clear X
  unfold vec
  go_enter Try.func37, Try.ntmps37
  go_wp2_with fail
  generalize ((w.alloc (.cells #[.float .f32 a, .float .f32 b, .float .f32 c] 26)).alloc (.cells #[.float .f32 0, .float .f32 0, .float .f32 0] 26)) = w1 at *
  go_region_held3 (fun w' => w'.cell? ⟨w.heap.size, 0, none⟩ = some (.float .f32 a) ∧ w'.cell? ⟨w.heap.size, 1, none⟩ = some (.float .f32 b) ∧ w'.cell? ⟨w.heap.size, 2, none⟩ = some (.float .f32 c)) (go_keep) (first | (go_at_call 34; refine (l00Float_any _ _).mono ?_; rintro e w' ⟨rfl, rfl⟩))
  all_goals
    go_wp2
    obtain ⟨k0, k1, k2⟩ := (set3 Y1.out (cz a) (cz b) (cz c)).cells
    refine bodyPost_ret (v := .agg #[.float .f32 (cz a), .float .f32 (cz b), .float .f32 (cz c)]) (by simp [results, Try.results37, go_sem, e0, e1, e2]) rfl ?_
    exact ⟨rfl, (below_set3 B1.out (Nat.le_succ _) _ _ _).drew⟩
end Go.Proofs.Ytkfahacnanlnfaa
