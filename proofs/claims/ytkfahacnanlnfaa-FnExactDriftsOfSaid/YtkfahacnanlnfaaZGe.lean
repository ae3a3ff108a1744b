/- Plain laws of the drift of a table; walks of the small functions on sizes. -/
/- Walks: the drift of a table, the program's side. -/
/- Walks: the drift of a table, the program's side, joined. -/
import Derived.Test.YtkfahacnanlnfaaZFr
import Derived.Test.YtkfahacnanlnfaaZGa
namespace Go.Proofs.Ytkfahacnanlnfaa
open Go.RowKit Ieee

/-! The product of any two complex numbers. -/
theorem mulBig {a b c d : Nat} {K : Int} (h : two K a b) (h' : two K c d) (h1 : -74 ≤ K) (h2 : K ≤ 62) : MulOk a b c d ∧ two (K + K + 1) (exV a c (ng b) d) (exV a d b c) := by
  obtain ⟨r1, l1, _⟩ := ex_ok (M := K + K) h.1 h'.1 (lim_ng h.2) h'.2 (by omega) (by omega) (by omega) (by omega) (by omega)
  obtain ⟨r2, l2, _⟩ := ex_ok (M := K + K) h.1 h'.2 h.2 h'.1 (by omega) (by omega) (by omega) (by omega) (by omega)
  exact ⟨⟨r1, r2, l1.fin, l2.fin⟩, ⟨l1, l2⟩⟩
theorem mulBig_lk {a b c d a' b' c' d' : Nat} {K : Int} (h : two K a b) (h' : two K c d) (h1 : -74 ≤ K) (h2 : K ≤ 62) (la : lk single a a') (lb : lk single b b') (lc : lk single c c') (ld : lk single d d') :
    lk single (exV a c (ng b) d) (exV a' c' (ng b') d') ∧ lk single (exV a d b c) (exV a' d' b' c') :=
  ⟨ex_lk (M := K + K) h.1 h'.1 (lim_ng h.2) h'.2 (by omega) (by omega) (by omega) (by omega) (by omega) la lc (lk_ng lb) ld,
   ex_lk (M := K + K) h.1 h'.2 h.2 h'.1 (by omega) (by omega) (by omega) (by omega) (by omega) la ld lb lc⟩
theorem two.cz {K : Int} {a b : Nat} (h : two K a b) : two K (Go.Proofs.Ytkfahacnanlnfaa.cz a) (Go.Proofs.Ytkfahacnanlnfaa.cz b) := ⟨lim_cz h.1, lim_cz h.2⟩
/-! The drift. -/
def dRe (t : T8) : Nat := op32 .sub (exV t.a t.g (ng t.b) t.h) (exV t.c t.e (ng t.d) t.f)
def dIm (t : T8) : Nat := op32 .sub (exV t.a t.h t.b t.g) (exV t.c t.f t.d t.e)
def dA0 (t : T8) : Nat := op32 .sub (rq t.a t.b t.c t.d) 1065353216
def dA1 (t : T8) : Nat := op32 .sub (dRe t) 1065353216
def drR (t : T8) : Nat := selR (dA0 t) (dA1 t) (dIm t)
theorem lim_one' {K : Int} (h : 0 ≤ K) : lim single K 1065353216 := lim_one.mono h
/-- The bounds on the way. -/
structure DrLim (t : T8) : Prop where
  m1 : MulOk t.a t.b t.g t.h
  m2 : MulOk t.c t.d t.e t.f
  l1 : two 123 (exV t.a t.g (ng t.b) t.h) (exV t.a t.h t.b t.g)
  l2 : two 123 (exV t.c t.e (ng t.d) t.f) (exV t.c t.f t.d t.e)
  lre : lim single 124 (dRe t)
  lim : lim single 124 (dIm t)
  lq : Go.Proofs.Ytkfahacnanlnfaa.lim single 124 (rq t.a t.b t.c t.d)
  l0 : Go.Proofs.Ytkfahacnanlnfaa.lim single 125 (dA0 t)
  l3 : Go.Proofs.Ytkfahacnanlnfaa.lim single 125 (dA1 t)
theorem drLim {t : T8} (h : limT 61 t) : DrLim t := by
  obtain ⟨m1, l1⟩ := mulBig h.1 h.2.2.2 (by decide) (by decide)
  obtain ⟨m2, l2⟩ := mulBig h.2.1 h.2.2.1 (by decide) (by decide)
  have lre := (lim_sub l1.1 l2.1 (by decide) (by decide)).1
  have lim' := (lim_sub l1.2 l2.2 (by decide) (by decide)).1
  have lq := (rq_nn h.1 h.2.1 (by decide) (by decide)).1.lim
  exact ⟨m1, m2, l1, l2, lre, lim', lq, (lim_sub lq (lim_one' (by decide)) (by decide) (by decide)).1, (lim_sub lre (lim_one' (by decide)) (by decide) (by decide)).1⟩
theorem drR_fin {t : T8} (h : limT 61 t) : fin32 (drR t) = true := selR_nn (drLim h).l0.fin (drLim h).l3.fin (drLim h).lim.fin
/-- The program's numbers. -/
theorem det_cz {t : T8} (h : limT 61 t) :
    cz (op32 .sub (cz (exV (czT t).a (czT t).g (ng (czT t).b) (czT t).h)) (cz (exV (czT t).c (czT t).e (ng (czT t).d) (czT t).f))) = cz (dRe t) ∧
    cz (op32 .sub (cz (exV (czT t).a (czT t).h (czT t).b (czT t).g)) (cz (exV (czT t).c (czT t).f (czT t).d (czT t).e))) = cz (dIm t) := by
  have D := drLim h
  obtain ⟨k1, k2⟩ := mulBig_lk h.1 h.2.2.2 (by decide) (by decide) (lk_cz h.1.1.fin) (lk_cz h.1.2.fin) (lk_cz h.2.2.2.1.fin) (lk_cz h.2.2.2.2.fin)
  obtain ⟨k3, k4⟩ := mulBig_lk h.2.1 h.2.2.1 (by decide) (by decide) (lk_cz h.2.1.1.fin) (lk_cz h.2.1.2.fin) (lk_cz h.2.2.1.1.fin) (lk_cz h.2.2.1.2.fin)
  unfold czT
  dsimp only
  rw [← k1.cz, ← k2.cz, ← k3.cz, ← k4.cz]
  exact ⟨((op32_lk (lk_cz D.l1.1.fin) (lk_cz D.l2.1.fin) D.l1.1 D.l2.1).2.cz).symm, ((op32_lk (lk_cz D.l1.2.fin) (lk_cz D.l2.2.fin) D.l1.2 D.l2.2).2.cz).symm⟩
theorem sub1_cz {x : Nat} {K : Int} (h : lim single K x) : cz (op32 .sub (cz x) 1065353216) = cz (op32 .sub x 1065353216) :=
  ((op32_lk (lk_cz h.fin) lk.rfl h lim_one).2.cz).symm
theorem sub0_cz {t : T8} (h : limT 61 t) : cz (op32 .sub (cz (dIm t)) 0) = cz (dIm t) := by
  have D := drLim h
  rw [← (op32_lk (lk_cz D.lim.fin) lk.rfl D.lim (lim0 (K := 0))).2.cz]
  obtain ⟨s, m, e, hr, _⟩ := D.lim
  exact sub_zero hr (op32_lt (.inr rfl) D.l1.2.fin D.l2.2.fin)

/-! Walks. -/
theorem fin_order {x y : Nat} (hx : fin32 x = true) (hy : fin32 y = true) : ∃ o, single.order x y = some o := by
  obtain ⟨s, m, e, ra⟩ := fin_iff.1 hx
  obtain ⟨t, n, f, rb⟩ := fin_iff.1 hy
  unfold Format.order
  rw [ra, rb]
  exact ⟨_, rfl⟩
theorem max2_mx {x y : Nat} (hx : fin32 x = true) (hy : fin32 y = true) (w : World) : (Builtin.max2 (.float .f32 x) (.float .f32 y)).run Try.prog w = .ok (.float .f32 (mx x y)) w := by
  obtain ⟨o, ho⟩ := fin_order hx hy
  have ho' : FloatKind.f32.format.order x y = some o := ho
  have hd : ∀ z, FloatKind.f32.decode z = single.read z := fun _ => rfl
  unfold mx
  rw [ho]
  cases o <;> simp [Builtin.max2, ho', hd]
theorem mx_fin {x y : Nat} (hx : fin32 x = true) (hy : fin32 y = true) : fin32 (mx x y) = true := by
  unfold mx
  split
  · exact hx
  · split
    · exact hy
    · exact hx
  · exact hy
theorem run_mx2 {x y : Nat} (hx : fin32 x = true) (hy : fin32 y = true) (ts : Array TypeId) (ty : TypeId) (w : World) : (Builtin.max_ ts ty #[.float .f32 x, .float .f32 y]).run Try.prog w = .ok (.float .f32 (mx x y)) w := by
  simp [Builtin.max_, max2_mx hx hy]
theorem run_mx3 {x y z : Nat} (hx : fin32 x = true) (hy : fin32 y = true) (hz : fin32 z = true) (ts : Array TypeId) (ty : TypeId) (w : World) : (Builtin.max_ ts ty #[.float .f32 x, .float .f32 y, .float .f32 z]).run Try.prog w = .ok (.float .f32 (mx (mx x y) z)) w := by
  simp [Builtin.max_, max2_mx hx hy, max2_mx (mx_fin hx hy) hz]
theorem clean_any (x : Nat) (w : World) : Calls Try.prog 128 #[.float .f32 x] w fun e w' => e = .returned (.float .f32 (cz x)) ∧ w = w' := by
  obtain ⟨r, hr⟩ : ∃ r, cz x = r := ⟨_, rfl⟩
  rw [hr]
  have HR := Lib.hid hr; clear hr
  go_enter Try.func128, Try.ntmps128
  go_wp2
  · have hc : (single.order x 0 == some .eq) = true := by assumption
    go_ret
    have h0 := HR.out
    rw [cz_eq, if_pos hc] at h0
    exact ⟨by rw [h0]; rfl, rfl⟩
  · have hc : (single.order x 0 == some .eq) = false := by assumption
    go_ret
    have h0 := HR.out
    rw [cz_eq, if_neg (by rw [hc]; exact nofun)] at h0
    exact ⟨by rw [h0]; rfl, rfl⟩
theorem ab_fin {x : Nat} (h : fin32 x = true) : fin32 (ab x) = true := (fin_cz _).trans (szR_nn h).2
theorem size_any (x : Nat) (hf : fin32 x = true) (w : World) : Calls Try.prog 98 #[.float .f32 x] w fun e w' => e = .returned (.float .f32 (ab x)) ∧ w = w' := by
  have hn := run_neg x
  have hm := fun w => size_mx hf ▸ run_mx2 (x := cz x) (y := cz (ng x)) ((fin_cz x).trans hf) ((fin_cz _).trans (by obtain ⟨s, m, e, hr⟩ := fin_iff.1 hf; exact fin_iff.2 ⟨_, _, _, ng_read hr⟩)) #[22, 22] 22 w
  clear hf
  have K1 := Lib.hid (fun w => clean_any x w)
  have K2 := Lib.hid (fun w => clean_any (ng x) w)
  generalize ab x = r at *
  generalize cz (ng x) = b at *
  generalize cz x = a at *
  generalize ng x = n at *
  go_enter Try.func98, Try.ntmps98
  go_wp2_with (simp only [hn, hm])
  refine (K1.out _).mono ?_
  rintro e w' ⟨rfl, rfl⟩
  go_wp2_with (simp only [hn, hm])
  refine (K2.out _).mono ?_
  rintro e w' ⟨rfl, rfl⟩
  go_wp2_with (simp only [hn, hm])
  go_ret
  exact ⟨rfl, rfl⟩
end Go.Proofs.Ytkfahacnanlnfaa
namespace Go.Proofs.Ytkfahacnanlnfaa
open Go.RowKit Ieee
attribute [local go_sem ↓] Go.wp_at_zero Go.wp_at_succ

theorem greatest_any (G x y : Nat) (w : World) (fx : fin32 x = true) (fy : fin32 y = true) (hc : w.cell? ⟨G, 0, none⟩ = some (.complex .f32 x y)) :
    Calls Try.prog 99 #[.slice (some ⟨G, 0, none⟩) 1 1] w fun e w' => e = .returned (.float .f32 (mx (mx 0 (ab x)) (ab y))) ∧ w = w' := by
  have K1 := Lib.hid (fun w => size_any x fx w)
  have K2 := Lib.hid (fun w => size_any y fy w)
  have hm := run_mx3 (x := 0) (y := ab x) (z := ab y) fin_zero (ab_fin fx) (ab_fin fy)
  clear fx fy
  generalize mx (mx 0 (ab x)) (ab y) = r at *
  generalize ab x = a at *
  generalize ab y = b at *
  go_enter Try.func99, Try.ntmps99
  go_wp2
  go_loop [3, 8] (fun v i => (i = .int .i64 0 ∧ v = .float .f32 0) ∨ (i = .int .i64 1 ∧ v = .float .f32 r)) (fun _ i => 1 - (intOf i).toNat)
  case atStart => exact .inl ⟨rfl, rfl⟩
  case round =>
    rcases hrel with ⟨rfl, rfl⟩ | ⟨rfl, rfl⟩
    · go_wp2_with (simp only [hm])
      refine (K1.out _).mono ?_
      rintro e w' ⟨rfl, rfl⟩
      go_wp2_with (simp only [hm])
      refine (K2.out _).mono ?_
      rintro e w' ⟨rfl, rfl⟩
      go_wp2_with (simp only [hm])
      exact ⟨.inr ⟨rfl, rfl⟩, by decide⟩
    · go_wp2
      go_ret
      exact ⟨rfl, rfl⟩
theorem det_any (B : Nat) (t : T8) (h : limT 61 t) (w : World) (hC : CalcAt w B 0) :
    Calls Try.prog 101 #[.pointer (some ⟨B, 0, none⟩), .agg #[.complex .f32 (cz t.a) (cz t.b), .complex .f32 (cz t.c) (cz t.d), .complex .f32 (cz t.e) (cz t.f), .complex .f32 (cz t.g) (cz t.h)]] w (CalcZ B 0 (cz (dRe t)) (cz (dIm t)) w) := by
  have hz := limT_cz h
  have D := drLim hz
  obtain ⟨e1, e2⟩ := det_cz h
  have K1 := Lib.hid (fun w hw => times_any B 0 _ _ _ _ w hw hz.1.1.fin hz.1.2.fin hz.2.2.2.1.fin hz.2.2.2.2.fin (lim_ng hz.1.2).fin D.m1)
  have K2 := Lib.hid (fun w hw => times_any B 0 _ _ _ _ w hw hz.2.1.1.fin hz.2.1.2.fin hz.2.2.1.1.fin hz.2.2.1.2.fin (lim_ng hz.2.1.2).fin D.m2)
  have l1 := D.l1.cz
  have l2 := D.l2.cz
  have K3 := Lib.hid (fun w hw => minus_any B 0 _ _ _ _ w hw l1.1.fin l1.2.fin l2.1.fin l2.2.fin (lim_sub l1.1 l2.1 (by decide) (by decide)).1.fin (lim_sub l1.2 l2.2 (by decide) (by decide)).1.fin)
  simp only [fz0] at K1 K2 K3
  rw [e1, e2] at K3
  unfold CalcZ czT at *
  dsimp only at *
  clear hz D e1 e2 l1 l2 h
  generalize cz (dRe t) = re at *
  generalize cz (dIm t) = im at *
  generalize cz (exV (cz t.a) (cz t.g) (ng (cz t.b)) (cz t.h)) = x1 at *
  generalize cz (exV (cz t.a) (cz t.h) (cz t.b) (cz t.g)) = y1 at *
  generalize cz (exV (cz t.c) (cz t.e) (ng (cz t.d)) (cz t.f)) = x2 at *
  generalize cz (exV (cz t.c) (cz t.f) (cz t.d) (cz t.e)) = y2 at *
  generalize cz t.a = a at *
  generalize cz t.b = b at *
  generalize cz t.c = c at *
  generalize cz t.d = d at *
  generalize cz t.e = e0 at *
  generalize cz t.f = f at *
  generalize cz t.g = g at *
  generalize cz t.h = k at *
  have X0 := Lib.hid (row4_new w (.complex .f32 a b) (.complex .f32 c d) (.complex .f32 e0 f) (.complex .f32 g k) 51)
  have b0 : Below w.heap.size w (w.alloc (.cells #[.complex .f32 a b, .complex .f32 c d, .complex .f32 e0 f, .complex .f32 g k] 51)) := (Below.refl _ _).alloc (Nat.le_refl _) _
  have hB := hC.lt
  have HC := Lib.hid (hC.below b0 hC.lt); clear hC
  have HG := Lib.hid (toGrown b0 (some B))
  clear b0
  go_enter Try.func101, Try.ntmps101
  go_wp2_with fail
  refine (K1.out _ HC.out).mono ?_
  rintro e w1 ⟨rfl, hc, hg⟩
  have C1 := Lib.hid hc
  have G1 := Lib.hid (HG.out.trans hg)
  have X1 := X0.out.keep (hg.block w.heap.size (by simp) (fun e => by have := Option.some.inj e; omega))
  obtain ⟨c0, c1, c2, c3⟩ := X1.cells
  clear X1 hc hg HC HG X0
  go_wp2_with fail
  refine (K2.out _ C1.out).mono ?_
  rintro e w2 ⟨rfl, hc, hg⟩
  have C2 := Lib.hid hc
  have G2 := Lib.hid (G1.out.trans hg)
  clear hc hg C1 G1 c0 c1 c2 c3
  go_wp2_with fail
  refine (K3.out _ C2.out).mono ?_
  rintro e w3 ⟨rfl, hc, hg⟩
  go_wp2
  go_ret
  exact ⟨rfl, hc, G2.out.trans hg⟩
end Go.Proofs.Ytkfahacnanlnfaa
namespace Go.Proofs.Ytkfahacnanlnfaa
open Go.RowKit Ieee
attribute [local go_sem ↓] Go.wp_at_zero Go.wp_at_succ

/-- What lies there while the program finds a drift. -/
structure Dr (w : World) (B : Nat) (c0 c1 c2 c3 : Value) (wx : World) : Prop where
  row : Row4 wx w.heap.size c0 c1 c2 c3
  hc : CalcAt wx B 0
  hg : w.grownBy wx (some B)
  hB : B < w.heap.size
section
variable {w wx w2 : World} {B : Nat} {c0 c1 c2 c3 : Value}
theorem Dr.drew (h : Dr w B c0 c1 c2 c3 wx) : Dr w B c0 c1 c2 c3 wx.drew := ⟨h.row, h.hc, ⟨h.hg.os, h.hg.tape, h.hg.output, h.hg.size, h.hg.block⟩, h.hB⟩
theorem Dr.call (h : Dr w B c0 c1 c2 c3 wx) (hc : CalcAt w2 B 0) (hg : wx.grownBy w2 (some B)) : Dr w B c0 c1 c2 c3 w2 := by
  have hB := h.hB
  exact ⟨h.row.grown hg (by omega), hc, h.hg.trans hg, hB⟩
theorem Dr.alloc (h : Dr w B c0 c1 c2 c3 wx) (o : Obj) : Dr w B c0 c1 c2 c3 (wx.alloc o) := ⟨h.row.alloc o, calcAlloc h.hc o, grownAlloc h.hg o, h.hB⟩
end
set_option maxHeartbeats 1000000 in
theorem drift_any (B : Nat) (t : T8) (h : limT 61 t) (w : World) (hC : CalcAt w B 0) :
    Calls Try.prog 65 #[.pointer (some ⟨B, 0, none⟩), .agg #[.complex .f32 (cz t.a) (cz t.b), .complex .f32 (cz t.c) (cz t.d), .complex .f32 (cz t.e) (cz t.f), .complex .f32 (cz t.g) (cz t.h)]] w (CalcPost B 0 (cz (drR t)) w) := by
  have D := drLim h
  have KQ := Lib.hid (fun w hw => rowSquare_any B 0 t w hw h (by decide) (by decide))
  have KS := Lib.hid (fun w hw => subF_any B 0 (cz (rq t.a t.b t.c t.d)) 1065353216 w hw (lim_cz D.lq).fin fin_one32 (lim_sub (lim_cz D.lq) (lim_one' (by decide)) (by decide) (by decide)).1.fin)
  have K98 := Lib.hid (fun w => size_any (cz (dA0 t)) (lim_cz D.l0).fin w)
  have KD := Lib.hid (fun w hw => det_any B t h w hw)
  have KM := Lib.hid (fun w hw => minus_any B 0 (cz (dRe t)) (cz (dIm t)) 1065353216 0 w hw (lim_cz D.lre).fin (lim_cz D.lim).fin fin_one32 fin_zero (lim_sub (lim_cz D.lre) (lim_one' (by decide)) (by decide) (by decide)).1.fin (lim_sub (lim_cz D.lim) (lim0 (K := 124)) (by decide) (by decide)).1.fin)
  have KG := Lib.hid (fun G w hw => greatest_any G (cz (dA1 t)) (cz (dIm t)) w (lim_cz D.l3).fin (lim_cz D.lim).fin hw)
  have hm := run_mx2 (x := ab (dA0 t)) (y := mx (mx 0 (ab (dA1 t))) (ab (dIm t))) (ab_fin D.l0.fin) (mx_fin (mx_fin fin_zero (ab_fin D.l3.fin)) (ab_fin D.lim.fin))
  rw [sel_eq D.l0.fin D.l3.fin D.lim.fin] at hm
  rw [show selR (dA0 t) (dA1 t) (dIm t) = drR t from rfl] at hm
  simp only [fz0] at KQ KS KM
  rw [sub1_cz D.lq] at KS
  rw [sub1_cz D.lre, sub0_cz h] at KM
  rw [ab_cz D.l0.fin] at K98
  rw [ab_cz D.l3.fin, ab_cz D.lim.fin] at KG
  rw [show op32 .sub (rq t.a t.b t.c t.d) 1065353216 = dA0 t from rfl] at KS
  rw [show op32 .sub (dRe t) 1065353216 = dA1 t from rfl] at KM
  clear D h
  generalize cz (drR t) = r at *
  generalize mx (mx 0 (ab (dA1 t))) (ab (dIm t)) = g1 at *
  generalize ab (dA0 t) = g0 at *
  generalize cz (dA0 t) = a0 at *
  generalize cz (dA1 t) = a1 at *
  generalize cz (dRe t) = re at *
  generalize cz (dIm t) = im at *
  generalize cz (rq t.a t.b t.c t.d) = q at *
  generalize cz t.a = a at *
  generalize cz t.b = b at *
  generalize cz t.c = c at *
  generalize cz t.d = d at *
  generalize cz t.e = e0 at *
  generalize cz t.f = f at *
  generalize cz t.g = g at *
  generalize cz t.h = k at *
  unfold CalcPost CalcZ at *
  have D0 := Lib.hid (show Dr w B (.complex .f32 a b) (.complex .f32 c d) (.complex .f32 e0 f) (.complex .f32 g k) (w.alloc (.cells #[.complex .f32 a b, .complex .f32 c d, .complex .f32 e0 f, .complex .f32 g k] 51)) from
    ⟨row4_new _ _ _ _ _ _, calcAlloc hC _, toGrown ((Below.refl _ _).alloc (Nat.le_refl _) _) _, hC.lt⟩)
  clear hC
  go_enter Try.func65, Try.ntmps65
  go_wp2_with fail
  refine (KQ.out _ D0.out.hc).mono ?_
  rintro e w1 ⟨rfl, hc, hg⟩
  have D1 := Lib.hid (D0.out.call hc hg)
  clear hc hg D0 KQ
  go_wp2_with fail
  refine (KS.out _ D1.out.hc).mono ?_
  rintro e w2 ⟨rfl, hc, hg⟩
  have D2 := Lib.hid (D1.out.call hc hg)
  clear hc hg D1 KS
  obtain ⟨c0, c1, c2, c3⟩ := D2.out.row.cells
  go_upto_region 2 with fail
  go_region_held3 (fun w' => w'.cell? ⟨w.heap.size, 0, none⟩ = some (.complex .f32 a b) ∧ w'.cell? ⟨w.heap.size, 1, none⟩ = some (.complex .f32 c d) ∧ w'.cell? ⟨w.heap.size, 2, none⟩ = some (.complex .f32 e0 f) ∧ w'.cell? ⟨w.heap.size, 3, none⟩ = some (.complex .f32 g k)) (go_keep)
      (first
        | (simp only [hm])
        | (go_at_call 98; refine (K98.out _).mono ?_; rintro e' w' ⟨rfl, rfl⟩)
        | (go_at_call 101; refine (KD.out _ D2.out.drew.hc).mono ?_; rintro e' w5 ⟨rfl, hc, hg⟩; have D5 := Lib.hid (D2.out.drew.call hc hg); clear hc hg; obtain ⟨x0, x1, x2, x3⟩ := D5.out.row.cells)
        | (go_at_call 100; refine (KM.out _ D5.out.hc).mono ?_; rintro e' w6 ⟨rfl, hc, hg⟩; have D6 := Lib.hid (D5.out.call hc hg); clear hc hg; obtain ⟨x0, x1, x2, x3⟩ := D6.out.row.cells; have D7 := Lib.hid (D6.out.alloc (.cells #[.complex .f32 a1 im] 34)); obtain ⟨y0, y1, y2, y3⟩ := D7.out.row.cells)
        | (go_at_call 99; refine (KG.out _ _ (by simp)).mono ?_; rintro e' w' ⟨rfl, rfl⟩))
  all_goals
    go_wp2
    go_ret
    exact ⟨rfl, D7.out.hc, D7.out.hg⟩
end Go.Proofs.Ytkfahacnanlnfaa
