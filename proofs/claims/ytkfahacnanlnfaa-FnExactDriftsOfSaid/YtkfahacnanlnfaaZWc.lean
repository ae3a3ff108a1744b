/- Weights: plain laws of the words that both sides compute; the reference's walk. -/
import Derived.Test.YtkfahacnanlnfaaZMb
import Derived.Test.YtkfahacnanlnfaaZEd
import Derived.Test.YtkfahacnanlnfaaZWb
namespace Go.Proofs.Ytkfahacnanlnfaa
open Go.RowKit Ieee

def wtT (c : Nat) : Nat := op32 .sub 1065353216 (op32 .mul c c)
/-- A root, of numbers below 0 too: 0. -/
def root0 (t : Nat) : Nat := match single.read t with | .number false (_ + 1) _ => rtv t | _ => 0
def wtR (c : Nat) : Nat := root0 (wtT c)
def wtA (c : Nat) : Nat := op32 .quo (op32 .add 1065353216 (wtR c)) 1073741824
def wtB (c : Nat) : Nat := op32 .quo (op32 .sub 1065353216 (wtR c)) 1073741824
theorem root0_lim (t : Nat) (h : fin32 t = true) : lim single 74 (root0 t) := by
  obtain ⟨s, m, e, hr⟩ := fin_iff.1 h
  have h0 : lim single 74 0 := ⟨false, 0, -149, by decide +kernel, le2_zero _ _⟩
  unfold root0
  rw [hr]
  cases s with
  | true => exact h0
  | false =>
    cases m with
    | zero => exact h0
    | succ m =>
      obtain ⟨m', e', h1, h2, h3, h4⟩ := rtv_read hr (Nat.succ_ne_zero m)
      refine ⟨false, m', e', h1, (e' + 112).toNat, 186, by omega, ?_⟩
      have hm := (num32 h1).1
      have : m' * 2 ^ (e' + 112).toNat ≤ 2 ^ 24 * 2 ^ (e' + 112).toNat := Nat.mul_le_mul_right _ (by omega)
      rw [← Nat.pow_add] at this
      exact Nat.le_trans this (Nat.pow_le_pow_right (by decide) (by omega))
theorem wt_lims {c : Nat} (h : lim single 1 c) : lim single 2 (op32 .mul c c) ∧ lim single 3 (wtT c) ∧ lim single 74 (wtR c) ∧ lim single 75 (op32 .add 1065353216 (wtR c)) ∧ lim single 75 (op32 .sub 1065353216 (wtR c)) ∧ lim single 74 (wtA c) ∧ lim single 74 (wtB c) := by
  have h1 := (lim_mul h h (by decide) (by decide)).1
  have h2 := (lim_sub (lim_one.mono (show (0 : Int) ≤ 2 by decide)) h1 (by decide) (by decide)).1
  have h3 := root0_lim _ h2.fin
  have h4 := (lim_add (lim_one.mono (show (0 : Int) ≤ 74 by decide)) h3 (by decide) (by decide)).1
  have h5 := (lim_sub (lim_one.mono (show (0 : Int) ≤ 74 by decide)) h3 (by decide) (by decide)).1
  exact ⟨h1, h2, h3, h4, h5, (lim_half h4 (by decide) (by decide)).1, (lim_half h5 (by decide) (by decide)).1⟩
theorem run_opF {o : BinOp} (ho : o = .add ∨ o = .sub ∨ o = .mul) {a b : Nat} (ha : fin32 a = true) (hb : fin32 b = true) (t : TypeId) (w : World) : (binOp o t (.float .f32 a) (.float .f32 b)).run Try.prog w = .ok (.float .f32 (op32 o a b)) w := by
  rcases ho with rfl | rfl | rfl
  · exact run_float_arith w .add t .f32 a b _ (op_fin rfl ha hb).1
  · exact run_float_arith w .sub t .f32 a b _ (op_fin rfl ha hb).1
  · exact run_float_arith w .mul t .f32 a b _ (op_fin rfl ha hb).1
theorem run_half {a : Nat} {K : Int} (ha : lim single K a) (h1 : -148 ≤ K) (h2 : K ≤ 127) (t : TypeId) (w : World) : (binOp .quo t (.float .f32 a) (.float .f32 1073741824)).run Try.prog w = .ok (.float .f32 (op32 .quo a 1073741824)) w :=
  run_float_arith w .quo t .f32 a _ _ (lim_half ha h1 h2).2.1
theorem fin_one32 : fin32 1065353216 = true := by decide +kernel
/-- What the reference's root does. -/
theorem spec_rootF (t : Nat) (h : fin32 t = true) : ((single.order t 0 == some .lt) = true ∧ root0 t = 0) ∨ ((single.order t 0 == some .lt) = false ∧ ∀ w, Calls Try.prog 79 #[.float .f32 t] w fun e w' => e = .returned (.float .f32 (root0 t)) ∧ w = w') := by
  obtain ⟨s, m, e, hr⟩ := fin_iff.1 h
  have ho := order_read hr
  cases m with
  | zero =>
    refine .inr ⟨by rw [ho]; rfl, fun w => ?_⟩
    have e0 : root0 t = 0 := by unfold root0; rw [hr]; cases s <;> rfl
    rw [e0]
    exact l01Root_zero t w (by rw [ho]; rfl)
  | succ m =>
    cases s with
    | true => exact .inl ⟨by rw [ho]; rfl, by unfold root0; rw [hr]⟩
    | false =>
      refine .inr ⟨by rw [ho]; rfl, fun w => ?_⟩
      have e0 : root0 t = rtv t := by unfold root0; rw [hr]
      rw [e0]
      exact l01Root_pos t _ _ w hr (Nat.succ_ne_zero m)

/-- The reference hands back two floats. -/
def TellsF (x y : Nat) (w : World) (e : Ending) (w' : World) : Prop := ∃ B, e = .returned (.tuple #[.slice (some ⟨B, 0, none⟩) 2 2, .int .i64 0]) ∧ w.heap.size ≤ B ∧ FRow2 w' B x y ∧ Below w.heap.size w w'
theorem frow_new (w : World) (x y : Nat) (t : TypeId) : FRow2 (w.alloc (.cells #[.float .f32 x, .float .f32 y] t)) w.heap.size x y := ⟨t, heap_alloc_new w _⟩

theorem specWeights1_yes (c : Nat) (w : World) (hf : fin32 c = true) (h0 : (single.order c 0 == some .lt) = false) (h2 : (single.order c 1073741824 == some .gt) = false) :
    Calls Try.prog 47 #[.float .f32 c] w (TellsF (wtA c) (wtB c) w) := by
  obtain ⟨l1, l2, l3, l4, l5, l6, l7⟩ := wt_lims (lim_two hf h0 h2).1
  have k1 := run_opF (.inr (.inr rfl)) hf hf
  have k2 := run_opF (.inr (.inl rfl)) fin_one32 l1.fin
  have k3 := run_opF (.inl rfl) fin_one32 l3.fin
  have k4 := run_opF (.inr (.inl rfl)) fin_one32 l3.fin
  have k5 := run_half l4 (by decide) (by decide)
  have k6 := run_half l5 (by decide) (by decide)
  have hroot := spec_rootF (wtT c) l2.fin
  clear l1 l2 l3 l4 l5 l6 l7
  rw [show op32 .sub 1065353216 (op32 .mul c c) = wtT c from rfl] at k2
  rw [show op32 .quo (op32 .add 1065353216 (wtR c)) 1073741824 = wtA c from rfl] at k5
  rw [show op32 .quo (op32 .sub 1065353216 (wtR c)) 1073741824 = wtB c from rfl] at k6
  rw [show root0 (wtT c) = wtR c from rfl] at hroot
  generalize wtA c = A at *
  generalize wtB c = D at *
  generalize wtR c = R at *
  generalize wtT c = T at *
  generalize op32 .mul c c = M at *
  generalize op32 .add 1065353216 R = A1 at *
  generalize op32 .sub 1065353216 R = B1 at *
  change (FloatKind.f32.format.order c 0 == some .lt) = false at h0
  change (FloatKind.f32.format.order c 1073741824 == some .gt) = false at h2
  have hz : (single.order 0 0 == some .eq) = true := by decide +kernel
  unfold TellsF
  rcases hroot with ⟨hT, rfl⟩ | ⟨hT, hroot⟩
  · change (FloatKind.f32.format.order T 0 == some .lt) = true at hT
    go_enter Try.func47, Try.ntmps47
    go_wp2_with fail
    refine (l01Fine_any c _).mono ?_
    rintro e w1 ⟨rfl, b1⟩
    rw [hf]
    clear hf
    have HB := Lib.hid b1; clear b1
    have HZ := Lib.hid hz; clear hz
    go_wp2_with (first | (simp only [k1, k2, k3, k4, k5, k6]) | (go_at_call 79; refine (l01Root_zero 0 _ HZ.out).mono ?_; rintro e w' ⟨rfl, rfl⟩))
    go_ret2
    exact ⟨_, rfl, HB.out.size, frow_new _ _ _ _, HB.out.alloc HB.out.size _⟩
  · change (FloatKind.f32.format.order T 0 == some .lt) = false at hT
    have HT := Lib.hid hroot; clear hroot
    go_enter Try.func47, Try.ntmps47
    go_wp2_with fail
    refine (l01Fine_any c _).mono ?_
    rintro e w1 ⟨rfl, b1⟩
    rw [hf]
    clear hf
    have HB := Lib.hid b1; clear b1
    have HZ := Lib.hid hz; clear hz
    go_wp2_with (first | (simp only [k1, k2, k3, k4, k5, k6]) | (go_at_call 79; refine (HT.out _).mono ?_; rintro e w' ⟨rfl, rfl⟩))
    go_ret2
    exact ⟨_, rfl, HB.out.size, frow_new _ _ _ _, HB.out.alloc HB.out.size _⟩
/-- The code of the weights. -/
def wtC (c : Nat) : Int := if fin32 c then (if (single.order c 0 == some .lt) || (single.order c 1073741824 == some .gt) then 2 else 0) else 1
theorem specWeights1_no (c : Nat) (w : World) (h : wtC c ≠ 0) :
    Calls Try.prog 47 #[.float .f32 c] w fun e w' => e = .returned (.tuple #[.slice none 0 0, .int .i64 (wtC c)]) ∧ Below w.heap.size w w' := by
  unfold wtC at h ⊢
  change (if fin32 c = true then (if ((FloatKind.f32.format.order c 0 == some .lt) || (FloatKind.f32.format.order c 1073741824 == some .gt)) = true then (2 : Int) else 0) else 1) ≠ 0 at h
  change Calls Try.prog 47 #[.float .f32 c] w fun e w' => e = .returned (.tuple #[.slice none 0 0, .int .i64 (if fin32 c = true then (if ((FloatKind.f32.format.order c 0 == some .lt) || (FloatKind.f32.format.order c 1073741824 == some .gt)) = true then (2 : Int) else 0) else 1)]) ∧ Below w.heap.size w w'
  cases hf : fin32 c with
  | false =>
    clear h
    go_enter Try.func47, Try.ntmps47
    go_wp2_with fail
    refine (l01Fine_any c _).mono ?_
    rintro e w1 ⟨rfl, b1⟩
    rw [hf]
    have HB := Lib.hid b1; clear b1
    go_wp2
    go_ret2
    exact ⟨rfl, HB.out⟩
  | true =>
    rw [hf] at h
    cases h0 : (FloatKind.f32.format.order c 0 == some .lt) with
    | true =>
      clear h
      go_enter Try.func47, Try.ntmps47
      go_wp2_with fail
      refine (l01Fine_any c _).mono ?_
      rintro e w1 ⟨rfl, b1⟩
      rw [hf]
      have HB := Lib.hid b1; clear b1
      go_wp2
      go_ret2
      exact ⟨rfl, HB.out⟩
    | false =>
      cases h2 : (FloatKind.f32.format.order c 1073741824 == some .gt) with
      | false => rw [h0, h2] at h; exact absurd rfl h
      | true =>
        clear h
        go_enter Try.func47, Try.ntmps47
        go_wp2_with fail
        refine (l01Fine_any c _).mono ?_
        rintro e w1 ⟨rfl, b1⟩
        rw [hf]
        have HB := Lib.hid b1; clear b1
        go_wp2
        go_ret2
        exact ⟨rfl, HB.out⟩
end Go.Proofs.Ytkfahacnanlnfaa
