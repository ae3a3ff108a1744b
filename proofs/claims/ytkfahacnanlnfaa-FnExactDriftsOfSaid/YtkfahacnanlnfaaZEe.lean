/- Walks: operations on complex numbers, both sides. -/
/- Walks: the numbers of halvings; tables of pulses, the reference's side. -/
import Derived.Test.YtkfahacnanlnfaaZEb
import Derived.Test.YtkfahacnanlnfaaZEd
import Derived.Test.YtkfahacnanlnfaaZWe
namespace Go.Proofs.Ytkfahacnanlnfaa
open Go.RowKit Ieee

theorem run_neg (x : Nat) (w : World) : (Op.unary .neg (.float .f32 x)).run Try.prog w = .ok (.float .f32 (ng x)) w := rfl
theorem run_dm {x y r : Nat} (h : double.mul x y = some r) (t : TypeId) (w : World) : (binOp .mul t (.float .f64 x) (.float .f64 y)).run Try.prog w = .ok (.float .f64 r) w :=
  run_float_arith w .mul t .f64 x y _ h
theorem run_da {x y r : Nat} (h : double.add x y = some r) (t : TypeId) (w : World) : (binOp .add t (.float .f64 x) (.float .f64 y)).run Try.prog w = .ok (.float .f64 r) w :=
  run_float_arith w .add t .f64 x y _ h
theorem run_nw {x r : Nat} (h : floatToFloatBits .f64 x .f32 = some r) (w : World) : (convert 29 22 (.float .f64 x)).run Try.prog w = .ok (.float .f32 r) w :=
  run_convert_float_float w 29 22 .f64 .f32 _ _ (by rw [Try.underlying29]; rfl) Try.underlying22 h

theorem l01Exact_any (a b c d : Nat) (w : World) (fa : fin32 a = true) (fb : fin32 b = true) (fc : fin32 c = true) (fd : fin32 d = true) (h : ExRun a b c d) :
    Calls Try.prog 145 #[.float .f32 a, .float .f32 b, .float .f32 c, .float .f32 d] w fun e w' => e = .returned (.float .f32 (exV a b c d)) ∧ w = w' := by
  obtain ⟨h1, h2, h3, h4⟩ := h
  have ka := wide_conv fa
  have kb := wide_conv fb
  have kc := wide_conv fc
  have kd := wide_conv fd
  have k1 := run_dm h1
  have k2 := run_dm h2
  have k3 := run_da h3
  have k4 := run_nw h4
  clear h1 h2 h3 h4 fa fb fc fd
  generalize exV a b c d = v at *
  generalize da (dm (wide a) (wide b)) (dm (wide c) (wide d)) = s at *
  generalize dm (wide a) (wide b) = p at *
  generalize dm (wide c) (wide d) = q at *
  go_enter Try.func145, Try.ntmps145
  go_wp2_with (simp only [ka, kb, kc, kd, k1, k2, k3, k4])
  go_ret
  exact ⟨rfl, rfl⟩
theorem l01Times_any (a b c d : Nat) (w : World) (fa : fin32 a = true) (fb : fin32 b = true) (fc : fin32 c = true) (fd : fin32 d = true) (fn : fin32 (ng b) = true) (h : MulOk a b c d) :
    Calls Try.prog 123 #[.complex .f32 a b, .complex .f32 c d] w fun e w' => e = .returned (.complex .f32 (exV a c (ng b) d) (exV a d b c)) ∧ w = w' := by
  have k1 := fun w => l01Exact_any a c (ng b) d w fa fc fn fd h.1
  have k2 := fun w => l01Exact_any a d b c w fa fd fb fc h.2.1
  have hn := run_neg b
  generalize exV a c (ng b) d = x at *
  generalize exV a d b c = y at *
  generalize ng b = n at *
  clear h fa fb fc fd fn
  have K1 := Lib.hid k1; clear k1
  have K2 := Lib.hid k2; clear k2
  go_enter Try.func123, Try.ntmps123
  go_wp2_with (simp only [hn])
  refine (K1.out _).mono ?_
  rintro e w' ⟨rfl, rfl⟩
  go_wp2_with fail
  refine (K2.out _).mono ?_
  rintro e w' ⟨rfl, rfl⟩
  go_wp2
  go_ret
  exact ⟨rfl, rfl⟩
theorem l01Add_any (a b c d : Nat) (w : World) (fa : fin32 a = true) (fb : fin32 b = true) (fc : fin32 c = true) (fd : fin32 d = true) :
    Calls Try.prog 122 #[.complex .f32 a b, .complex .f32 c d] w fun e w' => e = .returned (.complex .f32 (op32 .add a c) (op32 .add b d)) ∧ w = w' := by
  have k1 := run_opF (.inl rfl) fa fc
  have k2 := run_opF (.inl rfl) fb fd
  generalize op32 .add a c = x at *
  generalize op32 .add b d = y at *
  go_enter Try.func122, Try.ntmps122
  go_wp2_with (simp only [k1, k2])
  go_ret
  exact ⟨rfl, rfl⟩
theorem l01Conj_any (a b : Nat) (w : World) : Calls Try.prog 137 #[.complex .f32 a b] w fun e w' => e = .returned (.complex .f32 a (ng b)) ∧ w = w' := by
  have hn := run_neg b
  generalize ng b = n at *
  go_enter Try.func137, Try.ntmps137
  go_wp2_with (simp only [hn])
  go_ret
  exact ⟨rfl, rfl⟩
theorem l01Square_any (a b : Nat) (w : World) (fa : fin32 a = true) (fb : fin32 b = true) (h : ExRun a a b b) :
    Calls Try.prog 148 #[.complex .f32 a b] w fun e w' => e = .returned (.float .f32 (exV a a b b)) ∧ w = w' := by
  have k1 := fun w => l01Exact_any a a b b w fa fa fb fb h
  generalize exV a a b b = x at *
  clear h fa fb
  have K1 := Lib.hid k1; clear k1
  go_enter Try.func148, Try.ntmps148
  go_wp2_with (go_at_call 145; refine (K1.out _).mono ?_; rintro e w' ⟨rfl, rfl⟩)
  go_ret
  exact ⟨rfl, rfl⟩

/-! The program's. -/
/-- A number, with the sign of a zero left out; 0 where a failure is kept. -/
def fz (c : Int) (x : Nat) : Nat := if c = 0 then cz x else 0
theorem fz0 (x : Nat) : fz 0 x = cz x := if_pos rfl
theorem fz_not {c : Int} (h : c ≠ 0) (x : Nat) : fz c x = 0 := if_neg h
theorem fin_fz {c : Int} {x : Nat} (h : fin32 x = true) : fin32 (fz c x) = true := by
  unfold fz; split
  · exact (fin_cz x).trans h
  · exact fin_zero
theorem stp_fz {c : Int} {x : Nat} (h : fin32 x = true) : stpC c x = c ∧ stpV c x = fz c x := by
  refine ⟨stpC_fin h c, ?_⟩
  unfold stpV fz; rw [h]; rfl
theorem calc_fz {B x : Nat} {c : Int} {w : World} {e : Ending} {w' : World} (hx : fin32 x = true) (h : CalcPost B (stpC c x) (stpV c x) w e w') : CalcPost B c (fz c x) w e w' := by
  rw [(stp_fz hx).1, (stp_fz hx).2] at h; exact h
theorem roundF_any (B : Nat) (c : Int) (x : Nat) (w : World) (h : CalcAt w B c) (hx : fin32 x = true) : Calls Try.prog 82 #[.pointer (some ⟨B, 0, none⟩), .float .f32 x] w (CalcPost B c (fz c x) w) :=
  (round_any B c x w h).mono fun _ _ hp => calc_fz hx hp
theorem addF_any (B : Nat) (c : Int) (a b : Nat) (w : World) (h : CalcAt w B c) (ha : fin32 a = true) (hb : fin32 b = true) (hx : fin32 (op32 .add a b) = true) :
    Calls Try.prog 55 #[.pointer (some ⟨B, 0, none⟩), .float .f32 a, .float .f32 b] w (CalcPost B c (fz c (op32 .add a b)) w) :=
  (add_any B c a b w h ha hb).mono fun _ _ hp => calc_fz hx hp
theorem subF_any (B : Nat) (c : Int) (a b : Nat) (w : World) (h : CalcAt w B c) (ha : fin32 a = true) (hb : fin32 b = true) (hx : fin32 (op32 .sub a b) = true) :
    Calls Try.prog 51 #[.pointer (some ⟨B, 0, none⟩), .float .f32 a, .float .f32 b] w (CalcPost B c (fz c (op32 .sub a b)) w) :=
  (csub_any B c a b w h ha hb).mono fun _ _ hp => calc_fz hx hp
theorem both_any (B : Nat) (k : Int) (a b c d : Nat) (w : World) (hB : CalcAt w B k) (fa : fin32 a = true) (fb : fin32 b = true) (fc : fin32 c = true) (fd : fin32 d = true) (h : ExRun a b c d) (hx : fin32 (exV a b c d) = true) :
    Calls Try.prog 147 #[.pointer (some ⟨B, 0, none⟩), .float .f32 a, .float .f32 b, .float .f32 c, .float .f32 d] w (CalcPost B k (fz k (exV a b c d)) w) := by
  obtain ⟨h1, h2, h3, h4⟩ := h
  have ka := wide_conv fa
  have kb := wide_conv fb
  have kc := wide_conv fc
  have kd := wide_conv fd
  have k1 := run_dm h1
  have k2 := run_dm h2
  have k3 := run_da h3
  have k4 := run_nw h4
  clear h1 h2 h3 h4 fa fb fc fd
  generalize exV a b c d = v at *
  generalize da (dm (wide a) (wide b)) (dm (wide c) (wide d)) = s at *
  generalize dm (wide a) (wide b) = p at *
  generalize dm (wide c) (wide d) = q at *
  have HC := Lib.hid hB; clear hB
  go_enter Try.func147, Try.ntmps147
  go_wp2_with (first | (simp only [ka, kb, kc, kd, k1, k2, k3, k4]) | (go_at_call 82; refine (roundF_any B k v _ HC.out hx).mono ?_; rintro e w2 ⟨rfl, hc2, hg⟩))
  go_ret
  exact ⟨rfl, hc2, hg⟩
/-- The call hands back a complex number; the calculation keeps its code. -/
def CalcZ (B : Nat) (c : Int) (x y : Nat) (w : World) (e : Ending) (w' : World) : Prop := e = .returned (.complex .f32 x y) ∧ CalcAt w' B c ∧ w.grownBy w' (some B)
theorem z_any (B : Nat) (k : Int) (a b : Nat) (w : World) (h : CalcAt w B k) (fa : fin32 a = true) (fb : fin32 b = true) :
    Calls Try.prog 142 #[.pointer (some ⟨B, 0, none⟩), .float .f32 a, .float .f32 b] w (CalcZ B k (fz k a) (fz k b) w) := by
  have HC := Lib.hid h; clear h
  go_enter Try.func142, Try.ntmps142
  go_wp2_with fail
  refine (roundF_any B k a _ HC.out fa).mono ?_
  rintro e w1 ⟨rfl, hc1, hg1⟩
  have C1 := Lib.hid hc1; clear hc1
  have G1 := Lib.hid hg1; clear hg1
  go_wp2_with fail
  refine (roundF_any B k b _ C1.out fb).mono ?_
  rintro e w2 ⟨rfl, hc2, hg2⟩
  go_wp2
  go_ret
  exact ⟨rfl, hc2, G1.out.trans hg2⟩
theorem conj_any (B : Nat) (k : Int) (a b : Nat) (w : World) (h : CalcAt w B k) (fa : fin32 a = true) (fb : fin32 (ng b) = true) :
    Calls Try.prog 119 #[.pointer (some ⟨B, 0, none⟩), .complex .f32 a b] w (CalcZ B k (fz k a) (fz k (ng b)) w) := by
  have HC := Lib.hid h; clear h
  have hn := run_neg b
  generalize ng b = n at *
  go_enter Try.func119, Try.ntmps119
  go_wp2_with (simp only [hn])
  refine (z_any B k a n _ HC.out fa fb).mono ?_
  rintro e w1 ⟨rfl, hc1, hg1⟩
  go_wp2
  go_ret
  exact ⟨rfl, hc1, hg1⟩
theorem cneg_any (B : Nat) (k : Int) (a b : Nat) (w : World) (h : CalcAt w B k) (fa : fin32 (ng a) = true) (fb : fin32 (ng b) = true) :
    Calls Try.prog 118 #[.pointer (some ⟨B, 0, none⟩), .complex .f32 a b] w (CalcZ B k (fz k (ng a)) (fz k (ng b)) w) := by
  have HC := Lib.hid h; clear h
  have hn := run_neg b
  have hm := run_neg a
  generalize ng b = n at *
  generalize ng a = m at *
  go_enter Try.func118, Try.ntmps118
  go_wp2_with (simp only [hn, hm])
  refine (z_any B k m n _ HC.out fa fb).mono ?_
  rintro e w1 ⟨rfl, hc1, hg1⟩
  go_wp2
  go_ret
  exact ⟨rfl, hc1, hg1⟩
theorem plus_any (B : Nat) (k : Int) (a b c d : Nat) (w : World) (h : CalcAt w B k) (fa : fin32 a = true) (fb : fin32 b = true) (fc : fin32 c = true) (fd : fin32 d = true) (f1 : fin32 (op32 .add a c) = true) (f2 : fin32 (op32 .add b d) = true) :
    Calls Try.prog 139 #[.pointer (some ⟨B, 0, none⟩), .complex .f32 a b, .complex .f32 c d] w (CalcZ B k (fz k (op32 .add a c)) (fz k (op32 .add b d)) w) := by
  have HC := Lib.hid h; clear h
  go_enter Try.func139, Try.ntmps139
  go_wp2_with fail
  refine (addF_any B k a c _ HC.out fa fc f1).mono ?_
  rintro e w1 ⟨rfl, hc1, hg1⟩
  have C1 := Lib.hid hc1; clear hc1
  have G1 := Lib.hid hg1; clear hg1
  go_wp2_with fail
  refine (addF_any B k b d _ C1.out fb fd f2).mono ?_
  rintro e w2 ⟨rfl, hc2, hg2⟩
  go_wp2
  go_ret
  exact ⟨rfl, hc2, G1.out.trans hg2⟩
theorem minus_any (B : Nat) (k : Int) (a b c d : Nat) (w : World) (h : CalcAt w B k) (fa : fin32 a = true) (fb : fin32 b = true) (fc : fin32 c = true) (fd : fin32 d = true) (f1 : fin32 (op32 .sub a c) = true) (f2 : fin32 (op32 .sub b d) = true) :
    Calls Try.prog 100 #[.pointer (some ⟨B, 0, none⟩), .complex .f32 a b, .complex .f32 c d] w (CalcZ B k (fz k (op32 .sub a c)) (fz k (op32 .sub b d)) w) := by
  have HC := Lib.hid h; clear h
  go_enter Try.func100, Try.ntmps100
  go_wp2_with fail
  refine (subF_any B k a c _ HC.out fa fc f1).mono ?_
  rintro e w1 ⟨rfl, hc1, hg1⟩
  have C1 := Lib.hid hc1; clear hc1
  have G1 := Lib.hid hg1; clear hg1
  go_wp2_with fail
  refine (subF_any B k b d _ C1.out fb fd f2).mono ?_
  rintro e w2 ⟨rfl, hc2, hg2⟩
  go_wp2
  go_ret
  exact ⟨rfl, hc2, G1.out.trans hg2⟩
theorem square_any (B : Nat) (k : Int) (a b : Nat) (w : World) (h : CalcAt w B k) (fa : fin32 a = true) (fb : fin32 b = true) (hr : ExRun a a b b) (hx : fin32 (exV a a b b) = true) :
    Calls Try.prog 146 #[.pointer (some ⟨B, 0, none⟩), .complex .f32 a b] w (CalcPost B k (fz k (exV a a b b)) w) := by
  have HC := Lib.hid h; clear h
  go_enter Try.func146, Try.ntmps146
  go_wp2_with fail
  refine (both_any B k a a b b _ HC.out fa fa fb fb hr hx).mono ?_
  rintro e w1 ⟨rfl, hc1, hg1⟩
  go_wp2
  go_ret
  exact ⟨rfl, hc1, hg1⟩
theorem times_any (B : Nat) (k : Int) (a b c d : Nat) (w : World) (hB : CalcAt w B k) (fa : fin32 a = true) (fb : fin32 b = true) (fc : fin32 c = true) (fd : fin32 d = true) (fn : fin32 (ng b) = true) (h : MulOk a b c d) :
    Calls Try.prog 129 #[.pointer (some ⟨B, 0, none⟩), .complex .f32 a b, .complex .f32 c d] w (CalcZ B k (fz k (exV a c (ng b) d)) (fz k (exV a d b c)) w) := by
  have k1 := fun w hw => both_any B k a c (ng b) d w hw fa fc fn fd h.1 h.2.2.1
  have k2 := fun w hw => both_any B k a d b c w hw fa fd fb fc h.2.1 h.2.2.2
  have hn := run_neg b
  generalize exV a c (ng b) d = x at *
  generalize exV a d b c = y at *
  generalize ng b = n at *
  clear h fa fb fc fd fn
  have K1 := Lib.hid k1; clear k1
  have K2 := Lib.hid k2; clear k2
  have HC := Lib.hid hB; clear hB
  go_enter Try.func129, Try.ntmps129
  go_wp2_with (simp only [hn])
  refine (K1.out _ HC.out).mono ?_
  rintro e w1 ⟨rfl, hc1, hg1⟩
  have C1 := Lib.hid hc1; clear hc1
  have G1 := Lib.hid hg1; clear hg1
  go_wp2_with fail
  refine (K2.out _ C1.out).mono ?_
  rintro e w2 ⟨rfl, hc2, hg2⟩
  go_wp2
  go_ret
  exact ⟨rfl, hc2, G1.out.trans hg2⟩
theorem double_any (B : Nat) (k : Int) (a : Nat) (w : World) (h : CalcAt w B k) (fa : fin32 a = true) (hx : fin32 (op32 .add a a) = true) :
    Calls Try.prog 149 #[.pointer (some ⟨B, 0, none⟩), .float .f32 a] w (CalcPost B k (fz k (op32 .add a a)) w) := by
  have HC := Lib.hid h; clear h
  go_enter Try.func149, Try.ntmps149
  go_wp2_with fail
  refine (addF_any B k a a _ HC.out fa fa hx).mono ?_
  rintro e w1 ⟨rfl, hc1, hg1⟩
  go_wp2
  go_ret
  exact ⟨rfl, hc1, hg1⟩
theorem inTable_any (B : Nat) (k : Int) (a b c d p q r s : Nat) (w : World) (hB : CalcAt w B k)
    (fa : fin32 a = true) (fb : fin32 b = true) (fc : fin32 c = true) (fd : fin32 d = true) (fn : fin32 (ng b) = true) (h : MulOk a b c d)
    (fp : fin32 p = true) (fq : fin32 q = true) (fr : fin32 r = true) (fs : fin32 s = true) (fm : fin32 (ng q) = true) (h' : MulOk p q r s)
    (x y : Nat) (hx : op32 .add (fz k (exV a c (ng b) d)) (fz k (exV p r (ng q) s)) = x) (hy : op32 .add (fz k (exV a d b c)) (fz k (exV p s q r)) = y) (fx : fin32 x = true) (fy : fin32 y = true) :
    Calls Try.prog 114 #[.pointer (some ⟨B, 0, none⟩), .complex .f32 a b, .complex .f32 c d, .complex .f32 p q, .complex .f32 r s] w (CalcZ B k (fz k x) (fz k y) w) := by
  have k1 := fun w hw => times_any B k a b c d w hw fa fb fc fd fn h
  have k2 := fun w hw => times_any B k p q r s w hw fp fq fr fs fm h'
  have g1 : fin32 (fz k (exV a c (ng b) d)) = true := fin_fz h.2.2.1
  have g2 : fin32 (fz k (exV a d b c)) = true := fin_fz h.2.2.2
  have g3 : fin32 (fz k (exV p r (ng q) s)) = true := fin_fz h'.2.2.1
  have g4 : fin32 (fz k (exV p s q r)) = true := fin_fz h'.2.2.2
  generalize fz k (exV a c (ng b) d) = x1 at *
  generalize fz k (exV a d b c) = y1 at *
  generalize fz k (exV p r (ng q) s) = x2 at *
  generalize fz k (exV p s q r) = y2 at *
  have k3 := fun w hw => plus_any B k x1 y1 x2 y2 w hw g1 g2 g3 g4 (by rw [hx]; exact fx) (by rw [hy]; exact fy)
  rw [hx, hy] at k3
  clear h h' hx hy fa fb fc fd fn fp fq fr fs fm g1 g2 g3 g4 fx fy
  have K1 := Lib.hid k1; clear k1
  have K2 := Lib.hid k2; clear k2
  have K3 := Lib.hid k3; clear k3
  have HC := Lib.hid hB; clear hB
  go_enter Try.func114, Try.ntmps114
  go_wp2_with fail
  refine (K1.out _ HC.out).mono ?_
  rintro e w1 ⟨rfl, hc1, hg1⟩
  have C1 := Lib.hid hc1; clear hc1
  have G1 := Lib.hid hg1; clear hg1
  go_wp2_with fail
  refine (K2.out _ C1.out).mono ?_
  rintro e w2 ⟨rfl, hc2, hg2⟩
  have C2 := Lib.hid hc2; clear hc2
  have G2 := Lib.hid (G1.out.trans hg2); clear hg2
  go_wp2_with fail
  refine (K3.out _ C2.out).mono ?_
  rintro e w3 ⟨rfl, hc3, hg3⟩
  go_wp2
  go_ret
  exact ⟨rfl, hc3, G2.out.trans hg3⟩
end Go.Proofs.Ytkfahacnanlnfaa
namespace Go.Proofs.Ytkfahacnanlnfaa
open Go.RowKit Ieee

theorem posB_read {x : Nat} (h : posB x = true) : ∃ m e, single.read x = .number false m e ∧ m ≠ 0 := by
  unfold posB at h
  split at h
  · rename_i m e hr; exact ⟨m + 1, e, hr, Nat.succ_ne_zero m⟩
  · cases h
/-- What one step of the halvings needs. -/
structure HvStep (c s : Nat) : Prop where
  fc : fin32 c = true
  zc : cz c = c
  fs : fin32 s = true
  zs : cz s = s
  fa : fin32 (op32 .add 1065353216 c) = true
  za : cz (op32 .add 1065353216 c) = op32 .add 1065353216 c
  rh : floatBits .quo .f32 (op32 .add 1065353216 c) 1073741824 = some (hvH c)
  fh : fin32 (hvH c) = true
  zh : cz (hvH c) = hvH c
  ph : ∃ m e, single.read (hvH c) = .number false m e ∧ m ≠ 0
  fk : fin32 (hvC c) = true
  zk : cz (hvC c) = hvC c
  fd : fin32 (hvD c) = true
  zd : cz (hvD c) = hvD c
  dd : op32 .add (hvC c) (hvC c) = hvD c
  pd : ∃ m e, single.read (hvD c) = .number false m e ∧ m ≠ 0
  rz : floatBits .quo .f32 s (hvD c) = some (hvZ c s)
  fz : fin32 (hvZ c s) = true
  zz : cz (hvZ c s) = hvZ c s
theorem hv_step (k : Nat) (hk : k < 24) : HvStep (hv k).1 (hv k).2 := by
  have h := hv_all k hk
  unfold hvB at h
  simp only [Bool.and_eq_true] at h
  obtain ⟨⟨⟨⟨⟨⟨⟨⟨⟨⟨⟨⟨⟨h1, h2⟩, h3⟩, h4⟩, h5⟩, h6⟩, h7⟩, h8⟩, h9⟩, h10⟩, h11⟩, h12⟩, h13⟩, h14⟩ := h
  exact ⟨(kep_parts h1).1, (kep_parts h1).2, (kep_parts h2).1, (kep_parts h2).2, (kep_parts h3).1, (kep_parts h3).2, eq_of_beq h4, (kep_parts h5).1, (kep_parts h5).2, posB_read h6,
    (kep_parts h7).1, (kep_parts h7).2, (kep_parts h8).1, (kep_parts h8).2, eq_of_beq h9, posB_read h10, eq_of_beq h11, (kep_parts h12).1, (kep_parts h12).2⟩
theorem fin_two32 : fin32 1073741824 = true := by decide +kernel

theorem l03Halved_any (k : Nat) (w : World) (hk : k ≤ 24) : Calls Try.prog 124 #[.int .i64 (k : Int)] w fun e w' => e = .returned (.tuple #[.float .f32 (hv k).1, .float .f32 (hv k).2]) ∧ w = w' := by
  go_enter Try.func124, Try.ntmps124
  go_wp2
  go_loop [0, 4, 5] (fun n c s => ∃ j : Nat, j ≤ k ∧ n = .int .i64 ((k : Int) - j) ∧ c = .float .f32 (hv j).1 ∧ s = .float .f32 (hv j).2) (fun n _ _ => (intOf n).toNat)
  case atStart => exact ⟨0, Nat.zero_le _, by simp, rfl, rfl⟩
  case round =>
    obtain ⟨j, hj, rfl, rfl, rfl⟩ := hrel
    by_cases hlt : j < k
    · have hs := hv_step j (by omega)
      have e1 : (hv (j + 1)).1 = hvC (hv j).1 := rfl
      have e2 : (hv (j + 1)).2 = hvZ (hv j).1 (hv j).2 := rfl
      obtain ⟨c, hc⟩ : ∃ c, (hv j).1 = c := ⟨_, rfl⟩
      obtain ⟨s, hsn⟩ : ∃ s, (hv j).2 = s := ⟨_, rfl⟩
      rw [hc, hsn] at hs e2
      rw [hc] at e1
      rw [hc, hsn]
      obtain ⟨m, ee, hm1, hm2⟩ := hs.ph
      have k1 := run_opF (.inl rfl) fin_one32 hs.fc
      have k2 : ∀ t w, (binOp .quo t (.float .f32 (op32 .add 1065353216 c)) (.float .f32 1073741824)).run Try.prog w = .ok (.float .f32 (hvH c)) w := fun t w => run_float_arith w .quo t .f32 _ _ _ hs.rh
      have k3 := fun w => l01Root_pos (hvH c) m ee w hm1 hm2
      have k4 : ∀ t w, (binOp .mul t (.float .f32 1073741824) (.float .f32 (hvC c))).run Try.prog w = .ok (.float .f32 (hvD c)) w := run_opF (.inr (.inr rfl)) fin_two32 hs.fk
      have k5 : ∀ t w, (binOp .quo t (.float .f32 s) (.float .f32 (hvD c))).run Try.prog w = .ok (.float .f32 (hvZ c s)) w := fun t w => run_float_arith w .quo t .f32 _ _ _ hs.rz
      rw [show rtv (hvH c) = hvC c from rfl] at k3
      clear hs hm1 hm2 hc hsn
      have E := Lib.hid (And.intro e1 e2); clear e1 e2
      generalize op32 .add 1065353216 c = a at *
      generalize hvH c = h at *
      generalize hvC c = c' at *
      generalize hvD c = d at *
      generalize hvZ c s = s' at *
      have K3 := Lib.hid k3; clear k3
      go_wp2_with (first | (simp only [k1, k2, k4, k5]) | (go_at_call 79; refine (K3.out _).mono ?_; rintro e w' ⟨rfl, rfl⟩))
      exact ⟨⟨j + 1, by omega, by go_num, by rw [E.out.1], by rw [E.out.2]⟩, by simp [intOf]; omega⟩
    · obtain rfl : j = k := by omega
      obtain ⟨c, hc⟩ : ∃ c, (hv j).1 = c := ⟨_, rfl⟩
      obtain ⟨s, hs⟩ : ∃ s, (hv j).2 = s := ⟨_, rfl⟩
      have E := Lib.hid (And.intro hc hs)
      rw [hc, hs]
      clear hc hs
      go_wp2
      go_ret2
      exact ⟨by rw [E.out.1, E.out.2]; rfl, rfl⟩
end Go.Proofs.Ytkfahacnanlnfaa
