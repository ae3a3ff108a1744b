/- The law of the cross product: the walk. -/
import Derived.Test.YtkfahacnanlnfaaCi
import Derived.Deep.DeepCutAuto
namespace Go.Proofs.Ytkfahacnanlnfaa
open Go.RowKit Ieee

theorem fin_crVal (a b c a' b' c' p q r s : Nat) (h : pOk p q r s = true ∨ crOk a b c a' b' c' = false) : fin32 (crVal a b c a' b' c' (pv p q r s)) = true := by
  unfold crVal
  cases hf : (finV a b c && finV a' b' c') with
  | false => exact fin_zero
  | true =>
    cases ho : crOk a b c a' b' c' with
    | false => exact fin_zero
    | true =>
      simp only [if_true]
      rw [fin_cz]
      rw [ho] at h
      have h := h.resolve_right nofun
      unfold pOk at h
      unfold pv
      simp only [Bool.and_eq_true] at h
      exact h.2
theorem boxes23' (w : World) (a b c a' b' c' : Nat) : ∃ w1, w1 = ((w.alloc (.cells #[.float .f32 a, .float .f32 b, .float .f32 c] 23)).alloc (.cells #[.float .f32 a', .float .f32 b', .float .f32 c'] 23)) ∧ 
    Box3 w1 w.heap.size a b c ∧ Box3 w1 (w.heap.size + 1) a' b' c' ∧ Below w.heap.size w w1 := by
  obtain ⟨X, Y, b0⟩ := boxes23 w a b c a' b' c'
  exact ⟨_, rfl, X, Y, b0⟩
/-- What lies there while the law runs. -/
def Arg (w : World) (a b c a' b' c' : Nat) (w' : World) : Prop := Box3 w' w.heap.size a b c ∧ Box3 w' (w.heap.size + 1) a' b' c' ∧ Below w.heap.size w w'
theorem Arg.below {w w1 w2 : World} {a b c a' b' c' : Nat} (h : Arg w a b c a' b' c' w1) (b1 : Below w1.heap.size w1 w2) : Arg w a b c a' b' c' w2 :=
  ⟨h.1.below b1 h.1.lt, h.2.1.below b1 h.2.1.lt, h.2.2.trans (b1.mono h.2.2.size)⟩
theorem Arg.drew {w w1 : World} {a b c a' b' c' : Nat} (h : Arg w a b c a' b' c' w1) : Arg w a b c a' b' c' w1.drew := ⟨h.1, h.2.1, h.2.2.drew⟩
theorem Arg.alloc {w w1 : World} {a b c a' b' c' : Nat} (h : Arg w a b c a' b' c' w1) (o : Obj) : Arg w a b c a' b' c' (w1.alloc o) := ⟨h.1.alloc o, h.2.1.alloc o, h.2.2.alloc h.2.2.size o⟩
/-- The same, with the reference's vector. -/
def Arg3 (w : World) (a b c a' b' c' T x y z : Nat) (w' : World) : Prop := Box3 w' w.heap.size a b c ∧ Box3 w' (w.heap.size + 1) a' b' c' ∧ Below w.heap.size w w' ∧ Box3 w' T x y z ∧ w.heap.size ≤ T
section
variable {w w1 w2 : World} {a b c a' b' c' T x y z : Nat}
theorem Arg3.below (h : Arg3 w a b c a' b' c' T x y z w1) (b1 : Below w1.heap.size w1 w2) : Arg3 w a b c a' b' c' T x y z w2 :=
  ⟨h.1.below b1 h.1.lt, h.2.1.below b1 h.2.1.lt, h.2.2.1.trans (b1.mono h.2.2.1.size), h.2.2.2.1.below b1 h.2.2.2.1.lt, h.2.2.2.2⟩
theorem Arg3.drew (h : Arg3 w a b c a' b' c' T x y z w1) : Arg3 w a b c a' b' c' T x y z w1.drew := ⟨h.1, h.2.1, h.2.2.1.drew, h.2.2.2.1, h.2.2.2.2⟩
theorem Arg3.alloc (h : Arg3 w a b c a' b' c' T x y z w1) (o : Obj) : Arg3 w a b c a' b' c' T x y z (w1.alloc o) := ⟨h.1.alloc o, h.2.1.alloc o, h.2.2.1.alloc h.2.2.1.size o, h.2.2.2.1.alloc o, h.2.2.2.2⟩
theorem Box3.others {B : Nat} {p q r : Nat} (h : Box3 w B p q r) (hB : B ≠ T) (u0 u1 u2 : Value) : Box3 (((w.setCell ⟨T, 0, none⟩ u0).setCell ⟨T, 1, none⟩ u1).setCell ⟨T, 2, none⟩ u2) B p q r :=
  ((h.other (p := ⟨T, 0, none⟩) hB _).other (p := ⟨T, 1, none⟩) hB _).other (p := ⟨T, 2, none⟩) hB _
theorem arg3_set (h : Arg w a b c a' b' c' w1) (hz : Box3 w1 T 0 0 0) (n0 : w.heap.size ≠ T) (n1 : w.heap.size + 1 ≠ T) (hT : w.heap.size ≤ T) :
    Arg3 w a b c a' b' c' T x y z (((w1.setCell ⟨T, 0, none⟩ (.float .f32 x)).setCell ⟨T, 1, none⟩ (.float .f32 y)).setCell ⟨T, 2, none⟩ (.float .f32 z)) :=
  ⟨h.1.others n0 _ _ _, h.2.1.others n1 _ _ _, below_set3 h.2.2 hT _ _ _, set3 hz _ _ _, hT⟩
theorem arg3_new (h : Arg w a b c a' b' c' w1) (x y z : Nat) : Arg3 w a b c a' b' c' w1.heap.size x y z (w1.alloc (.cells #[.float .f32 x, .float .f32 y, .float .f32 z] 26)) :=
  ⟨h.1.alloc _, h.2.1.alloc _, h.2.2.alloc h.2.2.size _, box3_newT _ _ _ _ _, h.2.2.size⟩
/-- Both results lie there. -/
def Arg4 (w : World) (T U x y z : Nat) (w' : World) : Prop := Box3 w' T x y z ∧ Box3 w' U x y z ∧ Below w.heap.size w w'
theorem arg4_set {U : Nat} (h : Arg3 w a b c a' b' c' T x y z w1) (hz : Box3 w1 U 0 0 0) (n : T ≠ U) (hU : w.heap.size ≤ U) :
    Arg4 w T U x y z (((w1.setCell ⟨U, 0, none⟩ (.float .f32 x)).setCell ⟨U, 1, none⟩ (.float .f32 y)).setCell ⟨U, 2, none⟩ (.float .f32 z)) :=
  ⟨h.2.2.2.1.others n _ _ _, set3 hz _ _ _, below_set3 h.2.2.1 hU _ _ _⟩
theorem arg4_new (h : Arg3 w a b c a' b' c' T x y z w1) : Arg4 w T w1.heap.size x y z (w1.alloc (.cells #[.float .f32 x, .float .f32 y, .float .f32 z] 26)) :=
  ⟨h.2.2.2.1.alloc _, box3_newT _ _ _ _ _, h.2.2.1.alloc h.2.2.1.size _⟩
end
def Cut3 (w : World) (a b c a' b' c' x y z : Nat) (k : Int) (s5 s6 : Value) (wx : World) : Prop := ∃ T, s5 = .pointer (some ⟨T, 0, none⟩) ∧ s6 = .int .i64 k ∧ Arg3 w a b c a' b' c' T x y z wx
def Cut4 (w : World) (T x y z : Nat) (k : Int) (s7 s8 : Value) (wx : World) : Prop := ∃ U, s7 = .pointer (some ⟨U, 0, none⟩) ∧ s8 = .int .i64 k ∧ Arg4 w T U x y z wx
theorem eqVector_agg (a b c : Nat) (w : World) (fa : fin32 a = true) (fb : fin32 b = true) (fc : fin32 c = true) : Calls Try.prog 15 #[.agg #[.float .f32 a, .float .f32 b, .float .f32 c], .agg #[.float .f32 a, .float .f32 b, .float .f32 c]] w fun e w' =>
    e = .returned (.bool true) ∧ Below w.heap.size w w' := eqVector_any a b c w fa fb fc
set_option maxHeartbeats 40000000 in
theorem cross_walk (a b c a' b' c' : Nat) (w : World) : Calls Try.prog 4 #[vec a b c, vec a' b' c'] w fun e w' => e = .returned (.bool true) ∧ Below w.heap.size w w' := by
  have hs := fun w => specCross_any a b c a' b' c' w
  have hi := fun w => implCross_any a b c a' b' c' w
  have fx : fin32 (crVal a b c a' b' c' (pv b c' c b')) = true := fin_crVal _ _ _ _ _ _ _ _ _ _ (by unfold crOk; cases pOk b c' c b' <;> simp)
  have fy : fin32 (crVal a b c a' b' c' (pv c a' a c')) = true := fin_crVal _ _ _ _ _ _ _ _ _ _ (by unfold crOk; cases pOk c a' a c' <;> simp)
  have fz : fin32 (crVal a b c a' b' c' (pv a b' b a')) = true := fin_crVal _ _ _ _ _ _ _ _ _ _ (by unfold crOk; cases pOk a b' b a' <;> simp)
  generalize crVal a b c a' b' c' (pv b c' c b') = x at *
  generalize crVal a b c a' b' c' (pv c a' a c') = y at *
  generalize crVal a b c a' b' c' (pv a b' b a') = z at *
  generalize crCode a b c a' b' c' = k at *
  have HS := Lib.hid hs; clear hs
  have HI := Lib.hid hi; clear hi
  have FX := Lib.hid fx; clear fx
  have FY := Lib.hid fy; clear fy
  have FZ := Lib.hid fz; clear fz
  obtain ⟨w1, hw1, X, Y, b0⟩ := boxes23' w a b c a' b' c'
  have A0 := Lib.hid (show Arg w a b c a' b' c' w1 from ⟨X, Y, b0⟩)
  obtain ⟨c0, c1, c2⟩ := X.cells
  obtain ⟨d0, d1, d2⟩ := Y.cells
  have l0 := X.lt
  have l1 := Y.lt
  clear X Y b0
  unfold vec
  go_enter Try.func4, Try.ntmps4
  go_upto_region 1 with fail
  rw [← hw1]
  clear hw1
  go_cut [5, 6] (fun s5 s6 wx => Cut3 w a b c a' b' c' x y z k s5 s6 wx)
  case first =>
    go_region_held3 (fun w' => w'.cell? ⟨w.heap.size, 0, none⟩ = some (.float .f32 a) ∧ w'.cell? ⟨w.heap.size, 1, none⟩ = some (.float .f32 b) ∧ w'.cell? ⟨w.heap.size, 2, none⟩ = some (.float .f32 c) ∧ w'.cell? ⟨w.heap.size + 1, 0, none⟩ = some (.float .f32 a') ∧ w'.cell? ⟨w.heap.size + 1, 1, none⟩ = some (.float .f32 b') ∧ w'.cell? ⟨w.heap.size + 1, 2, none⟩ = some (.float .f32 c')) (go_keep) (first
    | (go_at_call 10; refine (toVector_agg _ _ _ _).mono ?_; rintro e w2 ⟨rfl, bb⟩; first | (have A2 := Lib.hid (Arg.below (Arg.alloc (Arg.drew A0.out) _) bb); have Z2 := Lib.hid (Box3.below (box3_newT _ 0 0 0 26) bb (by simp)); clear bb; have x0 := A2.out.1.cells.1; have x1 := A2.out.1.cells.2.1; have x2 := A2.out.1.cells.2.2; have y0 := A2.out.2.1.cells.1; have y1 := A2.out.2.1.cells.2.1; have y2 := A2.out.2.1.cells.2.2; have l0 := A2.out.1.lt; have l1 := A2.out.2.1.lt; have m0 := Nat.ne_of_lt l0; have m1 := Nat.ne_of_lt l1; have m2 := Ne.symm m0; have m3 := Ne.symm m1; have z0 := Z2.out.cells.1; have z1 := Z2.out.cells.2.1; have z2 := Z2.out.cells.2.2; have g0 := Z2.out.frozen 0; have g1 := Z2.out.frozen 1; have g2 := Z2.out.frozen 2; have lz := Z2.out.lt; have n0 := Nat.ne_of_lt A0.out.1.lt; have n1 := Nat.ne_of_lt A0.out.2.1.lt; have n2 := Ne.symm n0; have n3 := Ne.symm n1) | (have A2 := Lib.hid (Arg.below (Arg.drew (Arg.alloc A0.out _)) bb); have Z2 := Lib.hid (Box3.below (box3_drew (box3_newT _ 0 0 0 26)) bb (by simp)); clear bb; have x0 := A2.out.1.cells.1; have x1 := A2.out.1.cells.2.1; have x2 := A2.out.1.cells.2.2; have y0 := A2.out.2.1.cells.1; have y1 := A2.out.2.1.cells.2.1; have y2 := A2.out.2.1.cells.2.2; have l0 := A2.out.1.lt; have l1 := A2.out.2.1.lt; have m0 := Nat.ne_of_lt l0; have m1 := Nat.ne_of_lt l1; have m2 := Ne.symm m0; have m3 := Ne.symm m1; have z0 := Z2.out.cells.1; have z1 := Z2.out.cells.2.1; have z2 := Z2.out.cells.2.2; have g0 := Z2.out.frozen 0; have g1 := Z2.out.frozen 1; have g2 := Z2.out.frozen 2; have lz := Z2.out.lt; have n0 := Nat.ne_of_lt A0.out.1.lt; have n1 := Nat.ne_of_lt A0.out.2.1.lt; have n2 := Ne.symm n0; have n3 := Ne.symm n1) | (have A2 := Lib.hid (Arg.below (Arg.drew A0.out) bb); clear bb; have x0 := A2.out.1.cells.1; have x1 := A2.out.1.cells.2.1; have x2 := A2.out.1.cells.2.2; have y0 := A2.out.2.1.cells.1; have y1 := A2.out.2.1.cells.2.1; have y2 := A2.out.2.1.cells.2.2; have l0 := A2.out.1.lt; have l1 := A2.out.2.1.lt; have m0 := Nat.ne_of_lt l0; have m1 := Nat.ne_of_lt l1; have m2 := Ne.symm m0; have m3 := Ne.symm m1))
    | (go_at_call 10; refine (toVector_agg _ _ _ _).mono ?_; rintro e w3 ⟨rfl, bb⟩; first | (have A3 := Lib.hid (Arg.below (A2.out) bb); have Z3 := Lib.hid (Box3.below Z2.out bb Z2.out.lt); clear bb; have x0 := A3.out.1.cells.1; have x1 := A3.out.1.cells.2.1; have x2 := A3.out.1.cells.2.2; have y0 := A3.out.2.1.cells.1; have y1 := A3.out.2.1.cells.2.1; have y2 := A3.out.2.1.cells.2.2; have l0 := A3.out.1.lt; have l1 := A3.out.2.1.lt; have m0 := Nat.ne_of_lt l0; have m1 := Nat.ne_of_lt l1; have m2 := Ne.symm m0; have m3 := Ne.symm m1; have z0 := Z3.out.cells.1; have z1 := Z3.out.cells.2.1; have z2 := Z3.out.cells.2.2; have g0 := Z3.out.frozen 0; have g1 := Z3.out.frozen 1; have g2 := Z3.out.frozen 2; have lz := Z3.out.lt) | (have A3 := Lib.hid (Arg.below (Arg.alloc (A2.out) _) bb); have Z3 := Lib.hid (Box3.below (box3_newT _ 0 0 0 26) bb (by simp)); clear bb; have x0 := A3.out.1.cells.1; have x1 := A3.out.1.cells.2.1; have x2 := A3.out.1.cells.2.2; have y0 := A3.out.2.1.cells.1; have y1 := A3.out.2.1.cells.2.1; have y2 := A3.out.2.1.cells.2.2; have l0 := A3.out.1.lt; have l1 := A3.out.2.1.lt; have m0 := Nat.ne_of_lt l0; have m1 := Nat.ne_of_lt l1; have m2 := Ne.symm m0; have m3 := Ne.symm m1; have z0 := Z3.out.cells.1; have z1 := Z3.out.cells.2.1; have z2 := Z3.out.cells.2.2; have g0 := Z3.out.frozen 0; have g1 := Z3.out.frozen 1; have g2 := Z3.out.frozen 2; have lz := Z3.out.lt; have n0 := Nat.ne_of_lt A2.out.1.lt; have n1 := Nat.ne_of_lt A2.out.2.1.lt; have n2 := Ne.symm n0; have n3 := Ne.symm n1) | (have A3 := Lib.hid (Arg.below (A2.out) bb); clear bb; have x0 := A3.out.1.cells.1; have x1 := A3.out.1.cells.2.1; have x2 := A3.out.1.cells.2.2; have y0 := A3.out.2.1.cells.1; have y1 := A3.out.2.1.cells.2.1; have y2 := A3.out.2.1.cells.2.2; have l0 := A3.out.1.lt; have l1 := A3.out.2.1.lt; have m0 := Nat.ne_of_lt l0; have m1 := Nat.ne_of_lt l1; have m2 := Ne.symm m0; have m3 := Ne.symm m1))
    | (go_at_call 13; refine (HS.out _).mono ?_; rintro e w4 ⟨rfl, bb⟩; unfold vec; first | (have A4 := Lib.hid (Arg.below (A3.out) bb); have Z4 := Lib.hid (Box3.below Z3.out bb Z3.out.lt); clear bb; have x0 := A4.out.1.cells.1; have x1 := A4.out.1.cells.2.1; have x2 := A4.out.1.cells.2.2; have y0 := A4.out.2.1.cells.1; have y1 := A4.out.2.1.cells.2.1; have y2 := A4.out.2.1.cells.2.2; have l0 := A4.out.1.lt; have l1 := A4.out.2.1.lt; have m0 := Nat.ne_of_lt l0; have m1 := Nat.ne_of_lt l1; have m2 := Ne.symm m0; have m3 := Ne.symm m1; have z0 := Z4.out.cells.1; have z1 := Z4.out.cells.2.1; have z2 := Z4.out.cells.2.2; have g0 := Z4.out.frozen 0; have g1 := Z4.out.frozen 1; have g2 := Z4.out.frozen 2; have lz := Z4.out.lt) | (have A4 := Lib.hid (Arg.below (Arg.alloc (A3.out) _) bb); have Z4 := Lib.hid (Box3.below (box3_newT _ 0 0 0 26) bb (by simp)); clear bb; have x0 := A4.out.1.cells.1; have x1 := A4.out.1.cells.2.1; have x2 := A4.out.1.cells.2.2; have y0 := A4.out.2.1.cells.1; have y1 := A4.out.2.1.cells.2.1; have y2 := A4.out.2.1.cells.2.2; have l0 := A4.out.1.lt; have l1 := A4.out.2.1.lt; have m0 := Nat.ne_of_lt l0; have m1 := Nat.ne_of_lt l1; have m2 := Ne.symm m0; have m3 := Ne.symm m1; have z0 := Z4.out.cells.1; have z1 := Z4.out.cells.2.1; have z2 := Z4.out.cells.2.2; have g0 := Z4.out.frozen 0; have g1 := Z4.out.frozen 1; have g2 := Z4.out.frozen 2; have lz := Z4.out.lt; have n0 := Nat.ne_of_lt A3.out.1.lt; have n1 := Nat.ne_of_lt A3.out.2.1.lt; have n2 := Ne.symm n0; have n3 := Ne.symm n1) | (have A4 := Lib.hid (Arg.below (A3.out) bb); clear bb; have x0 := A4.out.1.cells.1; have x1 := A4.out.1.cells.2.1; have x2 := A4.out.1.cells.2.2; have y0 := A4.out.2.1.cells.1; have y1 := A4.out.2.1.cells.2.1; have y2 := A4.out.2.1.cells.2.2; have l0 := A4.out.1.lt; have l1 := A4.out.2.1.lt; have m0 := Nat.ne_of_lt l0; have m1 := Nat.ne_of_lt l1; have m2 := Ne.symm m0; have m3 := Ne.symm m1)))
    all_goals
      go_wp2_with fail
      go_meet
      first
      | exact ⟨_, rfl, rfl, arg3_set (x := x) (y := y) (z := z) (T := w1.heap.size) A4.out Z4.out n0 n1 A0.out.2.2.size⟩
      | exact ⟨_, rfl, rfl, arg3_set (x := x) (y := y) (z := z) (T := w2.heap.size) A4.out Z4.out n0 n1 A2.out.2.2.size⟩
      | exact ⟨_, rfl, rfl, arg3_set (x := x) (y := y) (z := z) (T := w3.heap.size) A4.out Z4.out n0 n1 A3.out.2.2.size⟩
      | exact ⟨_, rfl, rfl, arg3_new A4.out x y z⟩
  case rest =>
    obtain ⟨T, rfl, rfl, hB⟩ := hcut
    clear c0 c1 c2 d0 d1 d2 l0 l1 A0
    have B0 := Lib.hid hB; clear hB
    obtain ⟨q0, q1, q2⟩ := B0.out.1.cells
    obtain ⟨r0, r1, r2⟩ := B0.out.2.1.cells
    have s0 := B0.out.1.lt
    have s1 := B0.out.2.1.lt
    go_upto_region 2 with fail
    go_cut [7, 8] (fun s7 s8 wx => Cut4 w T x y z k s7 s8 wx)
    case first =>
      go_region_held3 (fun w' => w'.cell? ⟨w.heap.size, 0, none⟩ = some (.float .f32 a) ∧ w'.cell? ⟨w.heap.size, 1, none⟩ = some (.float .f32 b) ∧ w'.cell? ⟨w.heap.size, 2, none⟩ = some (.float .f32 c) ∧ w'.cell? ⟨w.heap.size + 1, 0, none⟩ = some (.float .f32 a') ∧ w'.cell? ⟨w.heap.size + 1, 1, none⟩ = some (.float .f32 b') ∧ w'.cell? ⟨w.heap.size + 1, 2, none⟩ = some (.float .f32 c')) (go_keep) (first
    | (go_at_call 10; refine (toVector_agg _ _ _ _).mono ?_; rintro e w6 ⟨rfl, bb⟩; first | (have B2 := Lib.hid (Arg3.below (Arg3.alloc (Arg3.drew B0.out) _) bb); have Y2 := Lib.hid (Box3.below (box3_newT _ 0 0 0 26) bb (by simp)); clear bb; have x0 := B2.out.1.cells.1; have x1 := B2.out.1.cells.2.1; have x2 := B2.out.1.cells.2.2; have y0 := B2.out.2.1.cells.1; have y1 := B2.out.2.1.cells.2.1; have y2 := B2.out.2.1.cells.2.2; have l0 := B2.out.1.lt; have l1 := B2.out.2.1.lt; have m0 := Nat.ne_of_lt l0; have m1 := Nat.ne_of_lt l1; have m2 := Ne.symm m0; have m3 := Ne.symm m1; have z0 := Y2.out.cells.1; have z1 := Y2.out.cells.2.1; have z2 := Y2.out.cells.2.2; have g0 := Y2.out.frozen 0; have g1 := Y2.out.frozen 1; have g2 := Y2.out.frozen 2; have lz := Y2.out.lt; have n0 := Nat.ne_of_lt B0.out.1.lt; have n1 := Nat.ne_of_lt B0.out.2.1.lt; have n2 := Ne.symm n0; have n3 := Ne.symm n1) | (have B2 := Lib.hid (Arg3.below (Arg3.drew (Arg3.alloc B0.out _)) bb); have Y2 := Lib.hid (Box3.below (box3_drew (box3_newT _ 0 0 0 26)) bb (by simp)); clear bb; have x0 := B2.out.1.cells.1; have x1 := B2.out.1.cells.2.1; have x2 := B2.out.1.cells.2.2; have y0 := B2.out.2.1.cells.1; have y1 := B2.out.2.1.cells.2.1; have y2 := B2.out.2.1.cells.2.2; have l0 := B2.out.1.lt; have l1 := B2.out.2.1.lt; have m0 := Nat.ne_of_lt l0; have m1 := Nat.ne_of_lt l1; have m2 := Ne.symm m0; have m3 := Ne.symm m1; have z0 := Y2.out.cells.1; have z1 := Y2.out.cells.2.1; have z2 := Y2.out.cells.2.2; have g0 := Y2.out.frozen 0; have g1 := Y2.out.frozen 1; have g2 := Y2.out.frozen 2; have lz := Y2.out.lt; have n0 := Nat.ne_of_lt B0.out.1.lt; have n1 := Nat.ne_of_lt B0.out.2.1.lt; have n2 := Ne.symm n0; have n3 := Ne.symm n1) | (have B2 := Lib.hid (Arg3.below (Arg3.drew B0.out) bb); clear bb; have x0 := B2.out.1.cells.1; have x1 := B2.out.1.cells.2.1; have x2 := B2.out.1.cells.2.2; have y0 := B2.out.2.1.cells.1; have y1 := B2.out.2.1.cells.2.1; have y2 := B2.out.2.1.cells.2.2; have l0 := B2.out.1.lt; have l1 := B2.out.2.1.lt; have m0 := Nat.ne_of_lt l0; have m1 := Nat.ne_of_lt l1; have m2 := Ne.symm m0; have m3 := Ne.symm m1))
    | (go_at_call 10; refine (toVector_agg _ _ _ _).mono ?_; rintro e w7 ⟨rfl, bb⟩; first | (have B3 := Lib.hid (Arg3.below (B2.out) bb); have Y3 := Lib.hid (Box3.below Y2.out bb Y2.out.lt); clear bb; have x0 := B3.out.1.cells.1; have x1 := B3.out.1.cells.2.1; have x2 := B3.out.1.cells.2.2; have y0 := B3.out.2.1.cells.1; have y1 := B3.out.2.1.cells.2.1; have y2 := B3.out.2.1.cells.2.2; have l0 := B3.out.1.lt; have l1 := B3.out.2.1.lt; have m0 := Nat.ne_of_lt l0; have m1 := Nat.ne_of_lt l1; have m2 := Ne.symm m0; have m3 := Ne.symm m1; have z0 := Y3.out.cells.1; have z1 := Y3.out.cells.2.1; have z2 := Y3.out.cells.2.2; have g0 := Y3.out.frozen 0; have g1 := Y3.out.frozen 1; have g2 := Y3.out.frozen 2; have lz := Y3.out.lt) | (have B3 := Lib.hid (Arg3.below (Arg3.alloc (B2.out) _) bb); have Y3 := Lib.hid (Box3.below (box3_newT _ 0 0 0 26) bb (by simp)); clear bb; have x0 := B3.out.1.cells.1; have x1 := B3.out.1.cells.2.1; have x2 := B3.out.1.cells.2.2; have y0 := B3.out.2.1.cells.1; have y1 := B3.out.2.1.cells.2.1; have y2 := B3.out.2.1.cells.2.2; have l0 := B3.out.1.lt; have l1 := B3.out.2.1.lt; have m0 := Nat.ne_of_lt l0; have m1 := Nat.ne_of_lt l1; have m2 := Ne.symm m0; have m3 := Ne.symm m1; have z0 := Y3.out.cells.1; have z1 := Y3.out.cells.2.1; have z2 := Y3.out.cells.2.2; have g0 := Y3.out.frozen 0; have g1 := Y3.out.frozen 1; have g2 := Y3.out.frozen 2; have lz := Y3.out.lt; have n0 := Nat.ne_of_lt B2.out.1.lt; have n1 := Nat.ne_of_lt B2.out.2.1.lt; have n2 := Ne.symm n0; have n3 := Ne.symm n1) | (have B3 := Lib.hid (Arg3.below (B2.out) bb); clear bb; have x0 := B3.out.1.cells.1; have x1 := B3.out.1.cells.2.1; have x2 := B3.out.1.cells.2.2; have y0 := B3.out.2.1.cells.1; have y1 := B3.out.2.1.cells.2.1; have y2 := B3.out.2.1.cells.2.2; have l0 := B3.out.1.lt; have l1 := B3.out.2.1.lt; have m0 := Nat.ne_of_lt l0; have m1 := Nat.ne_of_lt l1; have m2 := Ne.symm m0; have m3 := Ne.symm m1))
    | (go_at_call 14; refine (HI.out _).mono ?_; rintro e w8 ⟨rfl, bb⟩; unfold vec; first | (have B4 := Lib.hid (Arg3.below (B3.out) bb); have Y4 := Lib.hid (Box3.below Y3.out bb Y3.out.lt); clear bb; have x0 := B4.out.1.cells.1; have x1 := B4.out.1.cells.2.1; have x2 := B4.out.1.cells.2.2; have y0 := B4.out.2.1.cells.1; have y1 := B4.out.2.1.cells.2.1; have y2 := B4.out.2.1.cells.2.2; have l0 := B4.out.1.lt; have l1 := B4.out.2.1.lt; have m0 := Nat.ne_of_lt l0; have m1 := Nat.ne_of_lt l1; have m2 := Ne.symm m0; have m3 := Ne.symm m1; have z0 := Y4.out.cells.1; have z1 := Y4.out.cells.2.1; have z2 := Y4.out.cells.2.2; have g0 := Y4.out.frozen 0; have g1 := Y4.out.frozen 1; have g2 := Y4.out.frozen 2; have lz := Y4.out.lt) | (have B4 := Lib.hid (Arg3.below (Arg3.alloc (B3.out) _) bb); have Y4 := Lib.hid (Box3.below (box3_newT _ 0 0 0 26) bb (by simp)); clear bb; have x0 := B4.out.1.cells.1; have x1 := B4.out.1.cells.2.1; have x2 := B4.out.1.cells.2.2; have y0 := B4.out.2.1.cells.1; have y1 := B4.out.2.1.cells.2.1; have y2 := B4.out.2.1.cells.2.2; have l0 := B4.out.1.lt; have l1 := B4.out.2.1.lt; have m0 := Nat.ne_of_lt l0; have m1 := Nat.ne_of_lt l1; have m2 := Ne.symm m0; have m3 := Ne.symm m1; have z0 := Y4.out.cells.1; have z1 := Y4.out.cells.2.1; have z2 := Y4.out.cells.2.2; have g0 := Y4.out.frozen 0; have g1 := Y4.out.frozen 1; have g2 := Y4.out.frozen 2; have lz := Y4.out.lt; have n0 := Nat.ne_of_lt B3.out.1.lt; have n1 := Nat.ne_of_lt B3.out.2.1.lt; have n2 := Ne.symm n0; have n3 := Ne.symm n1) | (have B4 := Lib.hid (Arg3.below (B3.out) bb); clear bb; have x0 := B4.out.1.cells.1; have x1 := B4.out.1.cells.2.1; have x2 := B4.out.1.cells.2.2; have y0 := B4.out.2.1.cells.1; have y1 := B4.out.2.1.cells.2.1; have y2 := B4.out.2.1.cells.2.2; have l0 := B4.out.1.lt; have l1 := B4.out.2.1.lt; have m0 := Nat.ne_of_lt l0; have m1 := Nat.ne_of_lt l1; have m2 := Ne.symm m0; have m3 := Ne.symm m1)))
      all_goals
        go_wp2_with fail
        go_meet
        first
        | exact ⟨_, rfl, rfl, arg4_set (U := wc.heap.size) B4.out Y4.out (Nat.ne_of_lt B0.out.2.2.2.1.lt) B0.out.2.2.1.size⟩
        | exact ⟨_, rfl, rfl, arg4_set (U := w6.heap.size) B4.out Y4.out (Nat.ne_of_lt B2.out.2.2.2.1.lt) B2.out.2.2.1.size⟩
        | exact ⟨_, rfl, rfl, arg4_set (U := w7.heap.size) B4.out Y4.out (Nat.ne_of_lt B3.out.2.2.2.1.lt) B3.out.2.2.1.size⟩
        | exact ⟨_, rfl, rfl, arg4_new B4.out⟩
    case rest =>
      obtain ⟨U, rfl, rfl, hE⟩ := hcut
      clear q0 q1 q2 r0 r1 r2 s0 s1 B0
      have E0 := Lib.hid hE; clear hE
      obtain ⟨q0, q1, q2⟩ := E0.out.1.cells
      obtain ⟨r0, r1, r2⟩ := E0.out.2.1.cells
      go_wp2_with (go_at_call 15; refine (eqVector_agg x y z _ FX.out FY.out FZ.out).mono ?_; rintro e w10 ⟨rfl, b10⟩; have B10 := Lib.hid (Below.trans E0.out.2.2 (Below.mono b10 E0.out.2.2.size)); clear b10)
      go_ret
      exact ⟨rfl, B10.out⟩
end Go.Proofs.Ytkfahacnanlnfaa
