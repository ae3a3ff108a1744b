/- Walks of the small float functions. -/
/- Walks: powers of two. -/
/- The comparison of two floats; widening in a walk. -/
import Derived.Test.YtkfahacnanlnfaaProg
import Derived.Test.YtkfahacnanlnfaaZRa
import Derived.Test.YtkfahacnanlnfaaZRc
import Derived.WalkKit
import Derived.WalkLawsBesides
import Derived.WalkSpells
import Derived.Below
import Derived.Outline
import Derived.LoopTactic
import Derived.Lib.Hide
import Derived.OwnWalk
import Derived.StillTailTactics
import Derived.Deep.QuietTactic
import Derived.BigQuiet
import Derived.Laws.Externs
namespace Go.Proofs.Ytkfahacnanlnfaa
open Go.RowKit Ieee

theorem sub_self {x : Nat} (h : fin32 x = true) : floatBits .sub .f32 x x = some 0 := by
  obtain ⟨s, m, e, hr⟩ := fin_iff.1 h
  show single.sub x x = some 0
  unfold Format.sub
  rw [hr]
  have e1 : Datum.sum (.number s m e) (Datum.number s m e).opposite = some (.number false 0 e) := by
    simp only [Datum.opposite, Datum.sum]
    have : min e e = e := by omega
    rw [this]
    have h0 : signed s m (e - e).toNat + signed (!s) m (e - e).toNat = 0 := by unfold signed; cases s <;> simp <;> omega
    rw [h0]
    cases s <;> rfl
  rw [e1]
  show some (single.write (.number false 0 e)) = some 0
  rw [write_zero]; rfl
theorem sub_lost {x : Nat} (h : fin32 x = false) : floatBits .sub .f32 x x = none := by
  show single.sub x x = none
  unfold Format.sub
  cases hr : single.read x with
  | number s m e => have h1 : fin32 x = true := fin_iff.2 ⟨_, _, _, hr⟩; rw [h] at h1; cases h1
  | infinity s => cases s <;> rfl
  | nan s t => rfl
section
variable {P : Program}
theorem run_arith_none (w : World) (o : BinOp) (t : TypeId) (k : FloatKind) (x y : Nat) (ho : o = .add ∨ o = .sub ∨ o = .mul ∨ o = .quo) (h : floatBits o k x y = none) :
    ∃ r, (binOp o t (.float k x) (.float k y)).run P w = .ok (.float k r) w.drew ∧ ∃ s f, k.format.read r = .nan s f := by
  refine ⟨(Question.nanBits k x y).cut (w.tape w.drawn (.nanBits k x y)), ?_, ?_⟩
  · unfold floatBits at h
    rcases ho with rfl | rfl | rfl | rfl <;> simp only at h <;> simp [binOp, Op.floatArith, h, Question.forced]
  · cases k
    · exact nan32 _
    · exact nan64 _
end

theorem l01Fine_any (x : Nat) (w : World) : Calls Try.prog 78 #[.float .f32 x] w fun e w' => e = .returned (.bool (fin32 x)) ∧ Below w.heap.size w w' := by
  cases hf : fin32 x with
  | true =>
    have hop : ∀ t w, (binOp .sub t (.float .f32 x) (.float .f32 x)).run Try.prog w = .ok (.float .f32 0) w := fun t w => run_float_arith w .sub t .f32 x x 0 (sub_self hf)
    have h0 : single.order 0 0 = some .eq := by decide +kernel
    go_enter Try.func78, Try.ntmps78
    go_wp2_with (simp only [hop])
    go_ret
    exact ⟨by simp [FloatKind.format, h0], Below.refl _ _⟩
  | false =>
    obtain ⟨r, hop, hn⟩ := run_arith_none (P := Try.prog) w .sub 22 .f32 x x (.inr (.inl rfl)) (sub_lost hf)
    have hr : single.order r 0 = none := order_nan (.inl hn)
    go_enter Try.func78, Try.ntmps78
    go_wp2_with (simp only [hop])
    go_ret
    exact ⟨by simp [FloatKind.format, hr], (Below.refl _ _).drew⟩

theorem isNaN_any (v : Nat) (w : World) : Calls Try.prog 80 #[.float .f64 v] w fun e w' => e = .returned (.bool (double.order v v != some .eq)) ∧ w = w' := by
  go_enter Try.func80, Try.ntmps80
  go_wp2
  go_ret
  exact ⟨by simp [FloatKind.format], rfl⟩
theorem bits_run (args : Array Value) (w : World) : (callFunc 132 args).run Try.prog w = ((Extern.MathFloatBits.float64bits args).run Try.prog w).andThen fun v w' => .ok (.value v) w' :=
  run_callFunc_extern Try.func132 (by kernel_rfl) (by kernel_rfl) (by kernel_rfl) (by kernel_rfl) args w
theorem frombits_run (args : Array Value) (w : World) : (callFunc 131 args).run Try.prog w = ((Extern.MathFloatBits.float64frombits args).run Try.prog w).andThen fun v w' => .ok (.value v) w' :=
  run_callFunc_extern Try.func131 (by kernel_rfl) (by kernel_rfl) (by kernel_rfl) (by kernel_rfl) args w
@[go_sem] theorem bits_at (v : Nat) (w : World) : (callFunc 132 #[.float .f64 v]).run Try.prog w = .ok (.value (.int .u64 v)) w := by
  rw [bits_run]; rfl
@[go_sem] theorem frombits_at (v : Int) (w : World) : (callFunc 131 #[.int .u64 v]).run Try.prog w = .ok (.value (.float .f64 v.toNat)) w := by
  rw [frombits_run]; rfl
theorem abs_and (v : Nat) (h : v < 18446744073709551616) : bits .andNot .u64 (v : Int) 9223372036854775808 = ((v % 9223372036854775808 : Nat) : Int) := by
  rw [u64_andNot (v : Int) 9223372036854775808 (by omega) (by omega) (by omega) (by omega)]
  have e : 18446744073709551615 - Int.toNat 9223372036854775808 = 2 ^ 63 - 1 := by decide
  rw [Int.toNat_natCast, e, Nat.and_two_pow_sub_one_eq_mod]
set_option maxRecDepth 100000 in
theorem abs_any (v : Nat) (h : v < 18446744073709551616) (w : World) : Calls Try.prog 105 #[.float .f64 v] w fun e w' => e = .returned (.float .f64 (v % 9223372036854775808)) ∧ w = w' := by
  have ha := abs_and v h
  obtain ⟨k, hk⟩ : ∃ k, v % 9223372036854775808 = k := ⟨_, rfl⟩
  rw [hk] at ha ⊢
  go_enter Try.func105, Try.ntmps105
  go_wp2
  go_ret
  exact ⟨rfl, rfl⟩
set_option maxRecDepth 100000 in
theorem isInf_any (v : Nat) (h : v < 18446744073709551616) (w : World) : Calls Try.prog 81 #[.float .f64 v, .int .i64 0] w fun e w' => e = .returned (.bool (double.order (v % 9223372036854775808) 9218868437227405311 == some .gt)) ∧ w = w' := by
  obtain ⟨k, hk⟩ : ∃ k, v % 9223372036854775808 = k := ⟨_, rfl⟩
  rw [hk]
  go_enter Try.func81, Try.ntmps81
  go_wp2_with (go_at_call 105; refine (abs_any v h _).mono ?_; rintro e w' ⟨rfl, rfl⟩; rw [hk])
  go_ret
  exact ⟨by simp [FloatKind.format], rfl⟩
section
variable {P : Program}
theorem run_conv_nan (src dst : TypeId) (w : World) (b : Nat) (hs : (P.underlying src).isSome = true) (hd : P.underlying dst = some (.float .f64)) (h : ∃ s t, single.read b = .nan s t) :
    ∃ r, (convert src dst (.float .f32 b)).run P w = .ok (.float .f64 r) w.drew ∧ (∃ s f, double.read r = .nan s f) ∧ r < 18446744073709551616 := by
  obtain ⟨s, t, h⟩ := h
  have hd' : FloatKind.decode .f32 b = .nan s t := h
  obtain ⟨u, hs'⟩ := Option.isSome_iff_exists.1 hs
  refine ⟨(Question.nanConv .f64 b).cut (w.tape w.drawn (.nanConv .f64 b)), ?_, nan64 _, ?_⟩
  · cases u <;> simp [convert, run_underlying hs', run_underlying hd, Conv.floatToFloat, hd', Question.forced]
  · show (_ % 2) * 2 ^ 63 + 0x7ff0000000000000 + 1 + (_ / 2) % (2 ^ 52 - 1) < _
    generalize w.tape w.drawn (.nanConv .f64 b) = t
    have hr : (t / 2) % (2 ^ 52 - 1) < 4503599627370495 := Nat.mod_lt _ (by decide)
    generalize (t / 2) % (2 ^ 52 - 1) = r at hr
    rcases Nat.mod_two_eq_zero_or_one t with h | h <;> rw [h] <;> omega
end
theorem wide_lt {b r : Nat} (h : floatToFloatBits .f32 b .f64 = some r) : r < 18446744073709551616 := by
  have hne : FloatKind.f32 ≠ FloatKind.f64 := by decide
  unfold floatToFloatBits at h
  rw [if_neg hne] at h
  have w64 : ∀ d, FloatKind.encode .f64 d < 18446744073709551616 := fun d => Nat.lt_of_lt_of_le (double.write_lt d) (by decide)
  split at h
  · cases h
  · cases h; exact w64 _
  · split at h
    · cases h
    · cases h; exact w64 _
theorem isNumber_any (x : Nat) (w : World) : Calls Try.prog 49 #[.float .f32 x] w fun e w' => e = .returned (.bool (fin32 x)) ∧ Below w.heap.size w w' := by
  cases hr : single.read x with
  | number s m e =>
    have hf : fin32 x = true := fin_iff.2 ⟨_, _, _, hr⟩
    rw [hf]
    obtain ⟨hw, h0, h1⟩ := wide_num hr
    have hc : ∀ w, (convert 22 29 (.float .f32 x)).run Try.prog w = .ok (.float .f64 (wide x)) w := fun w => run_convert_float_float w 22 29 .f32 .f64 x _ (by rw [Try.underlying22]; rfl) Try.underlying29 hw
    obtain ⟨m', e', hr', hm', he'⟩ : ∃ m' e', double.read (wide x) = .number s m' e' ∧ m' < 9007199254740992 ∧ e' ≤ 971 := by
      by_cases hm : m = 0
      · exact ⟨_, _, h0 hm, by omega, by omega⟩
      · obtain ⟨k, hk, hr', _, hb⟩ := h1 hm
        exact ⟨_, _, hr', hb, by have := (num32 hr).2.2.1; omega⟩
    have ho : double.order (wide x) (wide x) = some .eq := order_self (fun a t h => by rw [hr'] at h; cases h)
    have ha : double.read (wide x % 9223372036854775808) = .number false m' e' := by rw [read_abs, hr']
    have hi := not_above ha hm' he'
    have hl := wide_lt hw
    generalize wide x = y at *
    go_enter Try.func49, Try.ntmps49
    go_wp2_with (first | (go_at_call 80; refine (isNaN_any y _).mono ?_; rintro e w' ⟨rfl, rfl⟩; rw [ho]) | (go_at_call 81; refine (isInf_any y hl _).mono ?_; rintro e w' ⟨rfl, rfl⟩; rw [hi]) | (rw [hc]))
    go_ret
    exact ⟨rfl, Below.refl _ _⟩
  | infinity s =>
    have hf : fin32 x = false := by unfold fin32 fin; rw [hr]
    rw [hf]
    obtain ⟨hw, hr'⟩ := wide_inf hr
    have hc : ∀ w, (convert 22 29 (.float .f32 x)).run Try.prog w = .ok (.float .f64 (wide x)) w := fun w => run_convert_float_float w 22 29 .f32 .f64 x _ (by rw [Try.underlying22]; rfl) Try.underlying29 hw
    have ho : double.order (wide x) (wide x) = some .eq := order_self (fun a t h => by rw [hr'] at h; cases h)
    have ha : double.read (wide x % 9223372036854775808) = .infinity false := by rw [read_abs, hr']
    have hi := above_inf ha
    have hl := wide_lt hw
    generalize wide x = y at *
    go_enter Try.func49, Try.ntmps49
    go_wp2_with (first | (go_at_call 80; refine (isNaN_any y _).mono ?_; rintro e w' ⟨rfl, rfl⟩; rw [ho]) | (go_at_call 81; refine (isInf_any y hl _).mono ?_; rintro e w' ⟨rfl, rfl⟩; rw [hi]) | (rw [hc]))
    go_ret
    exact ⟨rfl, Below.refl _ _⟩
  | nan s t =>
    have hf : fin32 x = false := by unfold fin32 fin; rw [hr]
    rw [hf]
    obtain ⟨y, hc, hn, hl⟩ := run_conv_nan (P := Try.prog) 22 29 w x (by rw [Try.underlying22]; rfl) Try.underlying29 ⟨_, _, hr⟩
    have ho : double.order y y = none := order_nan (.inl hn)
    go_enter Try.func49, Try.ntmps49
    go_wp2_with (first | (go_at_call 80; refine (isNaN_any y _).mono ?_; rintro e w' ⟨rfl, rfl⟩; rw [ho]) | (rw [hc]))
    go_ret
    exact ⟨rfl, (Below.refl _ _).drew⟩

theorem l00Float_any (x : Nat) (w : World) : Calls Try.prog 34 #[.float .f32 x] w fun e w' => e = .returned (.float .f32 (cz x)) ∧ w = w' := by
  obtain ⟨r, hr⟩ : ∃ r, cz x = r := ⟨_, rfl⟩
  rw [hr]
  have HR := Lib.hid hr; clear hr
  go_enter Try.func34, Try.ntmps34
  go_wp2
  · have hc : (single.order x 0 == some .eq) = true := by assumption
    go_ret
    have h0 := HR.out
    rw [cz_eq, if_pos hc] at h0
    exact ⟨by rw [h0]; rfl, rfl⟩
  · have hc : (single.order x 0 == some .eq) = false := by assumption
    go_ret
    have h0 := HR.out
    rw [cz_eq, if_neg (by rw [hc]; exact nofun)] at h0
    exact ⟨by rw [h0]; rfl, rfl⟩
theorem l01Number1_any (x : Nat) (w : World) : Calls Try.prog 67 #[.float .f32 x] w fun e w' => e = .returned (.tuple #[.float .f32 (if fin32 x then x else 0), .int .i64 (if fin32 x then 0 else 3)]) ∧ Below w.heap.size w w' := by
  obtain ⟨c, hc⟩ : ∃ c, fin32 x = c := ⟨_, rfl⟩
  rw [hc]
  cases c
  all_goals
    go_enter Try.func67, Try.ntmps67
    go_wp2_with (go_at_call 78; refine (l01Fine_any x _).mono ?_; rintro e w' ⟨rfl, hb⟩; rw [hc])
    go_ret2
    exact ⟨rfl, hb⟩

/-- Block B holds the reckoner, with the code c. -/
def CalcAt (w : World) (B : Nat) (c : Int) : Prop := w.heap[B]? = some (.cells #[.int .i64 c] 67 (0, 0))
section
variable {w w' : World} {B : Nat} {c : Int}
theorem CalcAt.lt (h : CalcAt w B c) : B < w.heap.size := (Array.getElem?_eq_some_iff.1 h).1
theorem CalcAt.cell (h : CalcAt w B c) : w.cell? ⟨B, 0, none⟩ = some (.int .i64 c) := by
  unfold CalcAt at h
  simp [World.cell?, h]
theorem CalcAt.frozen (h : CalcAt w B c) : w.frozen? ⟨B, 0, none⟩ = false := by
  unfold CalcAt at h
  simp [World.frozen?, h]
theorem CalcAt.below {K : Nat} (h : CalcAt w B c) (hb : Below K w w') (hK : B < K) : CalcAt w' B c := (hb.block B hK).trans h
theorem CalcAt.set (h : CalcAt w B c) (k : Int) : CalcAt (w.setCell ⟨B, 0, none⟩ (.int .i64 k)) B k := by
  unfold CalcAt at h ⊢
  simp [World.setCell, Array.getElem?_modify, h]
end
theorem toGrown {w w' : World} (h : Below w.heap.size w w') (row : Option Nat) : w.grownBy w' row := ⟨h.os, h.tape, h.output, h.size, fun k hk _ => h.block k hk⟩
theorem grownBy_set (w : World) (g i : Nat) (u : Value) : w.grownBy (w.setCell ⟨g, i, none⟩ u) (some g) :=
  ⟨rfl, rfl, rfl, by simp [World.setCell], fun k _ hne => Below.heap_setCell w ⟨g, i, none⟩ u k (by rintro rfl; exact hne rfl)⟩

def failed (c k : Int) : Int := if c = 0 then k else c
theorem fail_any (B : Nat) (c k : Int) (w : World) (h : CalcAt w B c) : Calls Try.prog 106 #[.pointer (some ⟨B, 0, none⟩), .int .i64 k] w fun e w' => e = .returned (.tuple #[]) ∧ CalcAt w' B (failed c k) ∧ w.grownBy w' (some B) := by
  have hc := h.cell
  have hf := h.frozen
  have HC := Lib.hid h; clear h
  obtain ⟨r, hr⟩ : ∃ r, failed c k = r := ⟨_, rfl⟩
  rw [hr]
  have HR := Lib.hid hr; clear hr
  go_enter Try.func106, Try.ntmps106
  go_wp2
  · have h0 : (c == 0) = true := by assumption
    go_end0
    have h1 := HR.out
    unfold failed at h1
    rw [if_pos (by simpa using h0)] at h1
    exact ⟨rfl, h1 ▸ HC.out.set k, grownBy_set w B 0 _⟩
  · have h0 : (c == 0) = false := by assumption
    go_end0
    have h1 := HR.out
    unfold failed at h1
    rw [if_neg (by simpa using h0)] at h1
    exact ⟨rfl, h1 ▸ HC.out, World.grownBy.refl _ _⟩

/-- What the reckoner makes of a raw result: the new code and the value. -/
def stpC (c : Int) (x : Nat) : Int := if fin32 x then c else failed c 3
def stpV (c : Int) (x : Nat) : Nat := if fin32 x then (if c = 0 then cz x else 0) else 0
/-- The call hands back the float v, and the reckoner B stands at the code c. -/
def CalcPost (B : Nat) (c : Int) (v : Nat) (w : World) (e : Ending) (w' : World) : Prop := e = .returned (.float .f32 v) ∧ CalcAt w' B c ∧ w.grownBy w' (some B)
theorem round_any (B : Nat) (c : Int) (x : Nat) (w : World) (h : CalcAt w B c) : Calls Try.prog 82 #[.pointer (some ⟨B, 0, none⟩), .float .f32 x] w (CalcPost B (stpC c x) (stpV c x) w) := by
  have HC := Lib.hid h; clear h
  cases hf : fin32 x with
  | true =>
    have e1 : stpC c x = c := by unfold stpC; rw [hf]; rfl
    have e2 : stpV c x = if c = 0 then cz x else 0 := by unfold stpV; rw [hf]; rfl
    rw [e1, e2]
    clear e1 e2
    obtain ⟨r, hr⟩ : ∃ r, (if c = 0 then cz x else 0) = r := ⟨_, rfl⟩
    rw [hr]
    rw [cz_eq] at hr
    have HR := Lib.hid hr; clear hr
    go_enter Try.func82, Try.ntmps82
    go_wp2_with (go_at_call 49; refine (isNumber_any x _).mono ?_; rintro e w1 ⟨rfl, hb⟩; rw [hf]; have HC1 := Lib.hid (HC.out.below hb HC.out.lt); have hc1 := HC1.out.cell; have hB := Lib.hid hb; clear hb)
    · have hx : single.order x 0 = some .eq := by assumption
      have hr : r = 0 := by have h0 := HR.out; rw [hx] at h0; simp at h0; exact h0.symm
      go_ret
      exact ⟨by rw [hr]; rfl, HC1.out, toGrown hB.out _⟩
    · have hx : ¬ single.order x 0 = some .eq := by assumption
      have hy : (single.order x 0 == some Ordering.eq) = true ∨ (c != 0) = true := by assumption
      have hr : r = 0 := by
        have h0 := HR.out
        rcases hy with h | h
        · simp at h; exact absurd h hx
        · rw [if_neg (by simpa using h)] at h0; exact h0.symm
      go_ret
      exact ⟨by rw [hr]; rfl, HC1.out, toGrown hB.out _⟩
    · have hy : (single.order x 0 == some Ordering.eq) = false ∧ (c != 0) = false := by assumption
      have hr : r = x := by
        have h0 := HR.out
        rw [if_pos (by simpa using hy.2), if_neg (by rw [hy.1]; exact nofun)] at h0
        exact h0.symm
      go_ret
      exact ⟨by rw [hr]; rfl, HC1.out, toGrown hB.out _⟩
  | false =>
    have e1 : stpC c x = failed c 3 := by unfold stpC; rw [hf]; rfl
    have e2 : stpV c x = 0 := by unfold stpV; rw [hf]; rfl
    rw [e1, e2]
    clear e1 e2
    go_enter Try.func82, Try.ntmps82
    go_wp2_with (first | (go_at_call 49; refine (isNumber_any x _).mono ?_; rintro e w1 ⟨rfl, hb⟩; rw [hf]; have HC1 := Lib.hid (HC.out.below hb HC.out.lt); have hB := Lib.hid hb; clear hb) | (go_at_call 106; refine (fail_any B c 3 _ HC1.out).mono ?_; rintro e w2 ⟨rfl, hc2, hg⟩))
    go_ret
    exact ⟨rfl, hc2, (toGrown hB.out _).trans hg⟩
theorem mul_any (B : Nat) (c : Int) (a b : Nat) (w : World) (h : CalcAt w B c) (ha : fin32 a = true) (hb : fin32 b = true) :
    Calls Try.prog 52 #[.pointer (some ⟨B, 0, none⟩), .float .f32 a, .float .f32 b] w (CalcPost B (stpC c (op32 .mul a b)) (stpV c (op32 .mul a b)) w) := by
  have HC := Lib.hid h; clear h
  have hop : ∀ t w, (binOp .mul t (.float .f32 a) (.float .f32 b)).run Try.prog w = .ok (.float .f32 (op32 .mul a b)) w := fun t w => run_float_arith w .mul t .f32 a b _ (op_fin rfl ha hb).1
  generalize op32 .mul a b = r at *
  go_enter Try.func52, Try.ntmps52
  go_wp2_with (first | (go_at_call 82; refine (round_any B c r _ HC.out).mono ?_; rintro e w2 ⟨rfl, hc2, hg⟩) | (simp only [hop]))
  go_ret
  exact ⟨rfl, hc2, hg⟩
theorem add_any (B : Nat) (c : Int) (a b : Nat) (w : World) (h : CalcAt w B c) (ha : fin32 a = true) (hb : fin32 b = true) :
    Calls Try.prog 55 #[.pointer (some ⟨B, 0, none⟩), .float .f32 a, .float .f32 b] w (CalcPost B (stpC c (op32 .add a b)) (stpV c (op32 .add a b)) w) := by
  have HC := Lib.hid h; clear h
  have hop : ∀ t w, (binOp .add t (.float .f32 a) (.float .f32 b)).run Try.prog w = .ok (.float .f32 (op32 .add a b)) w := fun t w => run_float_arith w .add t .f32 a b _ (op_fin rfl ha hb).1
  generalize op32 .add a b = r at *
  go_enter Try.func55, Try.ntmps55
  go_wp2_with (first | (go_at_call 82; refine (round_any B c r _ HC.out).mono ?_; rintro e w2 ⟨rfl, hc2, hg⟩) | (simp only [hop]))
  go_ret
  exact ⟨rfl, hc2, hg⟩
theorem csub_any (B : Nat) (c : Int) (a b : Nat) (w : World) (h : CalcAt w B c) (ha : fin32 a = true) (hb : fin32 b = true) :
    Calls Try.prog 51 #[.pointer (some ⟨B, 0, none⟩), .float .f32 a, .float .f32 b] w (CalcPost B (stpC c (op32 .sub a b)) (stpV c (op32 .sub a b)) w) := by
  have HC := Lib.hid h; clear h
  have hop : ∀ t w, (binOp .sub t (.float .f32 a) (.float .f32 b)).run Try.prog w = .ok (.float .f32 (op32 .sub a b)) w := fun t w => run_float_arith w .sub t .f32 a b _ (op_fin rfl ha hb).1
  generalize op32 .sub a b = r at *
  go_enter Try.func51, Try.ntmps51
  go_wp2_with (first | (go_at_call 82; refine (round_any B c r _ HC.out).mono ?_; rintro e w2 ⟨rfl, hc2, hg⟩) | (simp only [hop]))
  go_ret
  exact ⟨rfl, hc2, hg⟩
end Go.Proofs.Ytkfahacnanlnfaa
namespace Go.Proofs.Ytkfahacnanlnfaa
open Go.RowKit Ieee

theorem bits_mul (a b : Nat) : floatBits .mul .f64 a b = double.mul a b := rfl
theorem bits_quo (a b : Nat) : floatBits .quo .f64 a b = double.div a b := rfl
theorem ex_one {k : Int} (h1 : -200 ≤ k) (h2 : k ≤ 200) : ex 1 k := ⟨by decide, by decide, by omega, by omega⟩
theorem two_up {k : Int} (h1 : -200 ≤ k) (h2 : k < 200) (t : TypeId) (w : World) : (binOp .mul t (.float .f64 (dbl 1 k)) (.float .f64 4611686018427387904)).run Try.prog w = .ok (.float .f64 (dbl 1 (k + 1))) w :=
  run_float_arith w .mul t .f64 _ _ _ (by rw [bits_mul, ← dbl_two, dbl_mul (ex_one h1 (by omega)) (ex_one (by decide) (by decide)) (by decide) (by omega) (by omega)])
theorem two_down {k : Int} (h1 : -200 < k) (h2 : k ≤ 200) (t : TypeId) (w : World) : (binOp .quo t (.float .f64 (dbl 1 k)) (.float .f64 4611686018427387904)).run Try.prog w = .ok (.float .f64 (dbl 1 (k - 1))) w :=
  run_float_arith w .quo t .f64 _ _ _ (by rw [bits_quo, ← dbl_two, dbl_half (ex_one (by omega) h2) (ex_one (by decide) (by decide)) (by omega) (by omega)])

set_option maxHeartbeats 400000 in
theorem l01Two_any (k : Int) (w : World) (h1 : -130 ≤ k) (h2 : k ≤ 130) : Calls Try.prog 104 #[.int .i64 k] w fun e w' => e = .returned (.float .f64 (dbl 1 k)) ∧ w = w' := by
  have h0 := dbl_one
  have H0 := Lib.hid h0; clear h0
  go_enter Try.func104, Try.ntmps104
  go_wp2
  go_loop [0, 3] (fun t y => ∃ j : Int, (j = k ∨ (0 ≤ j ∧ j ≤ k)) ∧ t = .int .i64 j ∧ y = .float .f64 (dbl 1 (k - j))) (fun t _ => (intOf t).toNat)
  case atStart => exact ⟨k, .inl rfl, rfl, by rw [Int.sub_self, H0.out]⟩
  case round =>
    obtain ⟨j, hj, rfl, rfl⟩ := hrel
    by_cases hp : 0 < j
    · have hm := two_up (k := k - j) (by omega) (by omega)
      go_wp2_with (simp only [hm])
      refine ⟨⟨j - 1, by omega, rfl, by rw [show k - (j - 1) = k - j + 1 by omega]⟩, by simp [intOf]; omega⟩
    · have hj0 : j ≤ 0 := by omega
      go_wp2
      go_loop [0, 3] (fun t y => ∃ j : Int, (j ≤ 0 ∧ (j = 0 ∨ k ≤ j)) ∧ t = .int .i64 j ∧ y = .float .f64 (dbl 1 (k - j))) (fun t _ => (-(intOf t)).toNat)
      case atStart => exact ⟨j, by omega, rfl, rfl⟩
      case round =>
        obtain ⟨i, hi, rfl, rfl⟩ := hrel
        by_cases hq : i < 0
        · have hm := two_down (k := k - i) (by omega) (by omega)
          go_wp2_with (simp only [hm])
          refine ⟨⟨i + 1, by omega, rfl, by rw [show k - (i + 1) = k - i - 1 by omega]⟩, by simp [intOf]; omega⟩
        · obtain rfl : i = 0 := by omega
          go_wp2
          go_ret
          exact ⟨rfl, rfl⟩
end Go.Proofs.Ytkfahacnanlnfaa
namespace Go.Proofs.Ytkfahacnanlnfaa
open Go.RowKit Ieee

theorem order_zero64 (b : Nat) : (double.order b 0 == some .eq) = (match double.read b with | .number _ 0 _ => true | _ => false) := by
  have hz : double.read 0 = .number false 0 (-1074) := by decide +kernel
  unfold Format.order
  rw [hz]
  cases hr : double.read b with
  | number s m e =>
    simp only [Datum.order]
    have := num64 hr
    have e1 : min e (-1074) = -1074 := by omega
    rw [e1, signed_zero]
    cases m with
    | zero => rw [signed_zero]; rfl
    | succ m =>
      have hp : 0 < 2 ^ (e - -1074).toNat := Nat.two_pow_pos _
      have h0 : 0 < (m + 1) <<< (e - -1074).toNat := by rw [Nat.shiftLeft_eq]; exact Nat.mul_pos (by omega) hp
      unfold signed
      cases s
      · simp only [Bool.false_eq_true, if_false]
        have : compare (((m + 1) <<< (e - -1074).toNat : Nat) : Int) 0 = .gt := cmp_gt (by omega)
        rw [this]; rfl
      · simp only [if_true]
        have : compare (-(((m + 1) <<< (e - -1074).toNat : Nat) : Int)) 0 = .lt := cmp_lt (by omega)
        rw [this]; rfl
  | infinity s => cases s <;> rfl
  | nan s t => rfl
theorem one_read : double.read 4607182418800017408 = .number false 4503599627370496 (-52) := by decide +kernel
theorem sameFloat_any (x : Nat) (w : World) (h : fin64 x = true) : Calls Try.prog 12 #[.float .f64 x, .float .f64 x] w fun e w' => e = .returned (.bool true) ∧ w = w' := by
  obtain ⟨s, m, e, hr⟩ := fin_iff.1 h
  have ho : FloatKind.f64.format.order x x = some .eq := order_self (f := double) (fun a t h => by rw [hr] at h; cases h)
  cases m with
  | zero =>
    have hz : (FloatKind.f64.format.order x 0 == some .eq) = true := by show (double.order x 0 == some .eq) = true; rw [order_zero64, hr]; rfl
    have hq : ∀ t w, (binOp .quo t (.float .f64 4607182418800017408) (.float .f64 x)).run Try.prog w = .ok (.float .f64 (double.write (.infinity s))) w := fun t w => run_float_arith w .quo t .f64 _ x _ (by
      show double.div _ _ = _
      unfold Format.div
      rw [one_read, hr]
      cases s <;> rfl)
    generalize double.write (.infinity s) = q at hq
    go_enter Try.func12, Try.ntmps12
    go_wp2_with (simp only [hq])
    go_ret
    exact ⟨by simp, rfl⟩
  | succ m =>
    have hz : (FloatKind.f64.format.order x 0 == some .eq) = false := by show (double.order x 0 == some .eq) = false; rw [order_zero64, hr]; rfl
    go_enter Try.func12, Try.ntmps12
    go_wp2
    go_ret
    exact ⟨by simp, rfl⟩
theorem fin_wide {b : Nat} (h : fin32 b = true) : fin64 (wide b) = true := by
  obtain ⟨s, m, e, hr⟩ := fin_iff.1 h
  obtain ⟨_, h0, h1⟩ := wide_num hr
  by_cases hm : m = 0
  · exact fin_iff.2 ⟨_, _, _, h0 hm⟩
  · obtain ⟨k, _, h2, _⟩ := h1 hm
    exact fin_iff.2 ⟨_, _, _, h2⟩
theorem wide_conv {b : Nat} (h : fin32 b = true) (w : World) : (convert 22 29 (.float .f32 b)).run Try.prog w = .ok (.float .f64 (wide b)) w := by
  obtain ⟨s, m, e, hr⟩ := fin_iff.1 h
  exact run_convert_float_float w 22 29 .f32 .f64 b _ (by rw [Try.underlying22]; rfl) Try.underlying29 (wide_num hr).1
end Go.Proofs.Ytkfahacnanlnfaa
