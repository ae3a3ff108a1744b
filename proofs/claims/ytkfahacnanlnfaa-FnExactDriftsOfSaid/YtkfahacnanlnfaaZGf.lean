/- Walks: the drift of a table, the reference's side. -/
/- Walks: the drifts of a sequence, the reference's loop. -/
import Derived.Test.YtkfahacnanlnfaaZGe
namespace Go.Proofs.Ytkfahacnanlnfaa
open Go.RowKit Ieee
attribute [local go_sem ↓] Go.wp_at_zero Go.wp_at_succ

theorem l03Size_any (x : Nat) (w : World) : Calls Try.prog 144 #[.float .f32 x] w fun e w' => e = .returned (.float .f32 (szR x)) ∧ w = w' := by
  obtain ⟨r, hr⟩ : ∃ r, szR x = r := ⟨_, rfl⟩
  have hn := run_neg x
  rw [hr]
  have HR := Lib.hid hr; clear hr
  go_enter Try.func144, Try.ntmps144
  go_wp2_with (simp only [hn])
  · have hc : (single.order x 0 == some .lt) = true := by assumption
    go_ret
    have h0 := HR.out
    unfold szR at h0
    rw [if_pos hc] at h0
    exact ⟨by rw [← h0]; rfl, rfl⟩
  · have hc : (single.order x 0 == some .lt) = false := by assumption
    go_ret
    have h0 := HR.out
    unfold szR at h0
    rw [if_neg (by rw [hc]; exact nofun)] at h0
    exact ⟨by rw [← h0]; rfl, rfl⟩
theorem l01Less_any (a b c d : Nat) (w : World) (fa : fin32 a = true) (fb : fin32 b = true) (fc : fin32 c = true) (fd : fin32 d = true) :
    Calls Try.prog 150 #[.complex .f32 a b, .complex .f32 c d] w fun e w' => e = .returned (.complex .f32 (op32 .sub a c) (op32 .sub b d)) ∧ w = w' := by
  have k1 := run_opF (.inr (.inl rfl)) fa fc
  have k2 := run_opF (.inr (.inl rfl)) fb fd
  generalize op32 .sub a c = x at *
  generalize op32 .sub b d = y at *
  go_enter Try.func150, Try.ntmps150
  go_wp2_with (simp only [k1, k2])
  go_ret
  exact ⟨rfl, rfl⟩
theorem l03Det_any (t : T8) (h : limT 61 t) (w : World) :
    Calls Try.prog 143 #[.agg #[.complex .f32 t.a t.b, .complex .f32 t.c t.d, .complex .f32 t.e t.f, .complex .f32 t.g t.h]] w fun e' w' => e' = .returned (.complex .f32 (dRe t) (dIm t)) ∧ Below w.heap.size w w' := by
  have D := drLim h
  have K1 := Lib.hid (fun w => l01Times_any t.a t.b t.g t.h w h.1.1.fin h.1.2.fin h.2.2.2.1.fin h.2.2.2.2.fin (lim_ng h.1.2).fin D.m1)
  have K2 := Lib.hid (fun w => l01Times_any t.c t.d t.e t.f w h.2.1.1.fin h.2.1.2.fin h.2.2.1.1.fin h.2.2.1.2.fin (lim_ng h.2.1.2).fin D.m2)
  have K3 := Lib.hid (show ∀ w, Calls Try.prog 150 #[.complex .f32 (exV t.a t.g (ng t.b) t.h) (exV t.a t.h t.b t.g), .complex .f32 (exV t.c t.e (ng t.d) t.f) (exV t.c t.f t.d t.e)] w fun e w' => e = .returned (.complex .f32 (dRe t) (dIm t)) ∧ w = w' from
    fun w => l01Less_any _ _ _ _ w D.l1.1.fin D.l1.2.fin D.l2.1.fin D.l2.2.fin)
  clear D h
  generalize dRe t = re at *
  generalize dIm t = im at *
  generalize exV t.a t.g (ng t.b) t.h = x1 at *
  generalize exV t.a t.h t.b t.g = y1 at *
  generalize exV t.c t.e (ng t.d) t.f = x2 at *
  generalize exV t.c t.f t.d t.e = y2 at *
  obtain ⟨a, b, c, d, e, f, g, k⟩ := t
  dsimp only at *
  obtain ⟨c0, c1, c2, c3⟩ := (row4_new w (.complex .f32 a b) (.complex .f32 c d) (.complex .f32 e f) (.complex .f32 g k) 51).cells
  go_enter Try.func143, Try.ntmps143
  go_wp2
  go_quiet (first | (go_at_call_of 123 (Value.complex FloatKind.f32 a b); exact Calls.quiet_of_same ((K1.out _).mono fun _ _ h => ⟨h.1, h.2.symm⟩)) | (go_at_call_of 123 (Value.complex FloatKind.f32 c d); exact Calls.quiet_of_same ((K2.out _).mono fun _ _ h => ⟨h.1, h.2.symm⟩)) | (go_at_call 150; exact Calls.quiet_of_same ((K3.out _).mono fun _ _ h => ⟨h.1, h.2.symm⟩)))
  go_wp2
  go_ret
  exact ⟨rfl, belowDrewN ((Below.refl _ _).alloc (Nat.le_refl _) _) _⟩
/-- The greatest of three words, as the reference finds it. -/
def sel3 (x y z : Nat) : Nat := if (single.order z (if (single.order y x == some .gt) = true then y else x) == some .gt) = true then z else if (single.order y x == some .gt) = true then y else x
theorem sel3_tt {x y z : Nat} (h1 : (FloatKind.f32.format.order y x == some .gt) = true) (h2 : (FloatKind.f32.format.order z y == some .gt) = true) : sel3 x y z = z := by
  change (single.order y x == some .gt) = true at h1
  change (single.order z y == some .gt) = true at h2
  simp only [sel3, h1, h2, if_true]
theorem sel3_tf {x y z : Nat} (h1 : (FloatKind.f32.format.order y x == some .gt) = true) (h2 : (FloatKind.f32.format.order z y == some .gt) = false) : sel3 x y z = y := by
  change (single.order y x == some .gt) = true at h1
  change (single.order z y == some .gt) = false at h2
  simp only [sel3, h1, h2, if_true, if_false, Bool.false_eq_true]
theorem sel3_ft {x y z : Nat} (h1 : (FloatKind.f32.format.order y x == some .gt) = false) (h2 : (FloatKind.f32.format.order z x == some .gt) = true) : sel3 x y z = z := by
  change (single.order y x == some .gt) = false at h1
  change (single.order z x == some .gt) = true at h2
  simp only [sel3, h1, h2, if_true, if_false, Bool.false_eq_true]
theorem sel3_ff {x y z : Nat} (h1 : (FloatKind.f32.format.order y x == some .gt) = false) (h2 : (FloatKind.f32.format.order z x == some .gt) = false) : sel3 x y z = x := by
  change (single.order y x == some .gt) = false at h1
  change (single.order z x == some .gt) = false at h2
  simp only [sel3, h1, h2, if_false, Bool.false_eq_true]
theorem drR_sel3 (t : T8) : drR t = sel3 (szR (dA0 t)) (szR (dA1 t)) (szR (dIm t)) := rfl
set_option maxHeartbeats 1000000 in
theorem l00Drift_any (t : T8) (h : limT 61 t) (w : World) :
    Calls Try.prog 121 #[.agg #[.complex .f32 t.a t.b, .complex .f32 t.c t.d, .complex .f32 t.e t.f, .complex .f32 t.g t.h]] w fun e' w' => e' = .returned (.tuple #[.float .f32 (drR t), .int .i64 0]) ∧ Below w.heap.size w w' := by
  have D := drLim h
  have KI := Lib.hid (fun w => is_val t w h)
  have KN := Lib.hid (fun w => l03Norm_any t.a t.b t.c t.d t.e t.f t.g t.h 61 w h.1 h.2.1 (by decide) (by decide))
  have KD := Lib.hid (fun w => l03Det_any t h w)
  have KQ := Lib.hid (fun w => l01Fine_yes _ w D.lq.fin)
  have KW := Lib.hid (fun w => l01Whole_yes _ _ w D.lre.fin D.lim.fin)
  have r1 := run_opF (.inr (.inl rfl)) D.lq.fin fin_one32
  have r2 := run_opF (.inr (.inl rfl)) D.lre.fin fin_one32
  rw [show op32 .sub (rq t.a t.b t.c t.d) 1065353216 = dA0 t from rfl] at r1
  rw [show op32 .sub (dRe t) 1065353216 = dA1 t from rfl] at r2
  rw [drR_sel3]
  have S0 := Lib.hid (fun w => l03Size_any (dA0 t) w)
  have S1 := Lib.hid (fun w => l03Size_any (dA1 t) w)
  have S2 := Lib.hid (fun w => l03Size_any (dIm t) w)
  clear D h
  generalize szR (dA0 t) = s0 at *
  generalize szR (dA1 t) = s1 at *
  generalize szR (dIm t) = s2 at *
  generalize dA0 t = a0 at *
  generalize dA1 t = a1 at *
  generalize dRe t = re at *
  generalize dIm t = im at *
  generalize rq t.a t.b t.c t.d = q at *
  obtain ⟨a, b, c, d, e, f, g, k⟩ := t
  dsimp only at *
  have X0 := Lib.hid (row4_new w (.complex .f32 a b) (.complex .f32 c d) (.complex .f32 e f) (.complex .f32 g k) 51)
  have B0 := Lib.hid ((Below.refl w.heap.size w).alloc (Nat.le_refl _) (.cells #[.complex .f32 a b, .complex .f32 c d, .complex .f32 e f, .complex .f32 g k] 51))
  go_enter Try.func121, Try.ntmps121
  go_wp2_with fail
  refine (KI.out _).mono ?_
  rintro e' w1 ⟨rfl, b1⟩
  have X1 := Lib.hid (X0.out.below b1 X0.out.lt)
  have B1 := Lib.hid (B0.out.trans (b1.mono B0.out.size))
  clear b1 X0 B0 KI
  obtain ⟨c0, c1, c2, c3⟩ := X1.out.cells
  go_upto_region 3 with fail
  go_cut [4, 5] (fun s4 s5 wx => s4 = .float .f32 q ∧ s5 = .complex .f32 re im ∧ Below w.heap.size w wx)
  case first =>
    go_region_held3 (fun w' => w'.cell? ⟨w.heap.size, 0, none⟩ = some (.complex .f32 a b) ∧ w'.cell? ⟨w.heap.size, 1, none⟩ = some (.complex .f32 c d) ∧ w'.cell? ⟨w.heap.size, 2, none⟩ = some (.complex .f32 e f) ∧ w'.cell? ⟨w.heap.size, 3, none⟩ = some (.complex .f32 g k)) (go_keep)
      (first
        | (go_at_call 134; refine (KN.out _).mono ?_; rintro e' w4 ⟨rfl, b4⟩; have X4 := Lib.hid (X1.out.drew.below b4 X1.out.drew.lt); have B4 := Lib.hid (B1.out.drew.trans (b4.mono B1.out.drew.size)); clear b4; obtain ⟨x0, x1, x2, x3⟩ := X4.out.cells)
        | (go_at_call 143; refine (KD.out _).mono ?_; rintro e' w5 ⟨rfl, b5⟩; have X5 := Lib.hid (X4.out.below b5 X4.out.lt); have B5 := Lib.hid (B4.out.trans (b5.mono B4.out.size)); clear b5; obtain ⟨x0, x1, x2, x3⟩ := X5.out.cells))
    all_goals
      go_wp2_with fail
      go_meet
      exact ⟨rfl, rfl, B5.out⟩
  case rest =>
    obtain ⟨rfl, rfl, hB⟩ := hcut
    have BB := Lib.hid hB; clear hB c0 c1 c2 c3 X1 B1 KN KD
    go_wp2_with (first
      | (simp only [r1, r2])
      | (go_at_call 78; refine (KQ.out _).mono ?_; rintro e' w' ⟨rfl, rfl⟩)
      | (go_at_call 133; refine (KW.out _).mono ?_; rintro e' w' ⟨rfl, rfl⟩)
      | (go_at_call_of 144 (Value.float FloatKind.f32 a0); refine (S0.out _).mono ?_; rintro e' w' ⟨rfl, rfl⟩)
      | (go_at_call_of 144 (Value.float FloatKind.f32 a1); refine (S1.out _).mono ?_; rintro e' w' ⟨rfl, rfl⟩)
      | (go_at_call_of 144 (Value.float FloatKind.f32 im); refine (S2.out _).mono ?_; rintro e' w' ⟨rfl, rfl⟩))
    · rw [sel3_tt (by assumption) (by assumption)]
      go_ret2
      exact ⟨rfl, BB.out⟩
    · rw [sel3_tf (by assumption) (by assumption)]
      go_ret2
      exact ⟨rfl, BB.out⟩
    · rw [sel3_ft (by assumption) (by assumption)]
      go_ret2
      exact ⟨rfl, BB.out⟩
    · rw [sel3_ff (by assumption) (by assumption)]
      go_ret2
      exact ⟨rfl, BB.out⟩
theorem drift_val (t : T8) (h : limT 61 t) (w : World) :
    Calls Try.prog 94 #[.agg #[.complex .f32 t.a t.b, .complex .f32 t.c t.d, .complex .f32 t.e t.f, .complex .f32 t.g t.h]] w fun e' w' => e' = .returned (.tuple #[.float .f32 (cz (drR t)), .int .i64 0]) ∧ Below w.heap.size w w' := by
  have KD := Lib.hid (fun w => l00Drift_any t h w)
  have KF := Lib.hid (fun w => l00Float_any (drR t) w)
  clear h
  generalize cz (drR t) = r at *
  generalize drR t = q at *
  obtain ⟨a, b, c, d, e, f, g, k⟩ := t
  dsimp only at *
  have B0 := Lib.hid ((Below.refl w.heap.size w).alloc (Nat.le_refl _) (.cells #[.complex .f32 a b, .complex .f32 c d, .complex .f32 e f, .complex .f32 g k] 51))
  go_enter Try.func94, Try.ntmps94
  go_wp2_with fail
  refine (KD.out _).mono ?_
  rintro e' w1 ⟨rfl, b1⟩
  have B1 := Lib.hid (B0.out.trans (b1.mono B0.out.size))
  clear b1 B0 KD
  go_wp2_with fail
  refine (KF.out _).mono ?_
  rintro e' w' ⟨rfl, rfl⟩
  go_wp2
  go_ret2
  exact ⟨rfl, B1.out⟩
end Go.Proofs.Ytkfahacnanlnfaa
namespace Go.Proofs.Ytkfahacnanlnfaa
open Go.RowKit Ieee
attribute [local go_sem ↓] Go.wp_at_zero Go.wp_at_succ

theorem tbl0_some (xs : List Pl.Pu) (k : Nat) : ∃ t, tbl 0 xs k = some t := by
  induction k with
  | zero => exact ⟨_, rfl⟩
  | succ k ih =>
    obtain ⟨t, ht⟩ := ih
    cases hp : xs[k]? with
    | none => exact ⟨t, by show (tbl 0 xs k).bind _ = _; rw [ht, hp]; rfl⟩
    | some p => exact ⟨tmT (plT p) t, by rw [tbl_succ 0 xs k t p ht hp]; unfold stepT; rw [if_neg (by omega)]⟩
theorem sT0_succ {xs : List Pl.Pu} {k : Nat} {p : Pl.Pu} (hp : xs[k]? = some p) : sT 0 xs (k + 1) = tmT (plT p) (sT 0 xs k) := by
  obtain ⟨t, ht⟩ := tbl0_some xs k
  unfold sT
  rw [tbl_succ 0 xs k t p ht hp, ht]
  unfold stepT
  rw [if_neg (by omega)]
  rfl
theorem iT0 (xs : List Pl.Pu) (k : Nat) : iT 0 xs k = czT (sT 0 xs k) ∧ iC 0 xs k = 0 := by
  obtain ⟨t, ht⟩ := tbl0_some xs k
  unfold iT iC sT
  rw [ht]
  exact ⟨rfl, rfl⟩
/-- The drift behind so many pulses; those of the beginnings. -/
def dv (xs : List Pl.Pu) (k : Nat) : Nat := cz (drR (sT 0 xs k))
def dvs (xs : List Pl.Pu) (n : Nat) : List Nat := (List.range n).map (dv xs)
def fvals (l : List Nat) : List Value := l.map fun x => .float .f32 x
theorem dvs_length (xs : List Pl.Pu) (n : Nat) : (dvs xs n).length = n := by simp [dvs]
theorem dvs_succ (xs : List Pl.Pu) (n : Nat) : fvals (dvs xs (n + 1)) = fvals (dvs xs n) ++ [.float .f32 (dv xs n)] := by
  unfold dvs fvals
  rw [List.range_succ]
  simp
theorem dvs_cz (xs : List Pl.Pu) (n : Nat) : (dvs xs n).map cz = dvs xs n := by
  unfold dvs
  rw [List.map_map]
  exact List.map_congr_left fun k _ => cz_cz _
/-- Block O is the table t, as a table. -/
def T51 (w : World) (O : Nat) (t : T8) : Prop := w.heap[O]? = some (.cells #[.complex .f32 t.a t.b, .complex .f32 t.c t.d, .complex .f32 t.e t.f, .complex .f32 t.g t.h] 51 (0, 0))
section
variable {w w' : World} {O : Nat} {t : T8}
theorem T51.row (h : T51 w O t) : TabAt w O t := ⟨51, h⟩
theorem T51.lt (h : T51 w O t) : O < w.heap.size := (Array.getElem?_eq_some_iff.1 h).1
theorem T51.keep (h : T51 w O t) (hb : w'.heap[O]? = w.heap[O]?) : T51 w' O t := hb.trans h
theorem T51.below {B : Nat} (h : T51 w O t) (hb : Below B w w') (hO : O < B) : T51 w' O t := h.keep (hb.block O hO)
theorem T51.alloc (h : T51 w O t) (o : Obj) : T51 (w.alloc o) O t := h.keep (Below.heap_alloc _ _ _ h.lt)
theorem T51.drew (h : T51 w O t) : T51 w.drew O t := h
theorem T51.put (h : T51 w O t) (u : T8) : T51 ((((w.setCell ⟨O, 0, none⟩ (.complex .f32 u.a u.b)).setCell ⟨O, 1, none⟩ (.complex .f32 u.c u.d)).setCell ⟨O, 2, none⟩ (.complex .f32 u.e u.f)).setCell ⟨O, 3, none⟩ (.complex .f32 u.g u.h)) O u := by
  unfold T51 at h ⊢
  simp [World.setCell, Array.getElem?_modify, h]
theorem T51.ne (h : T51 w O t) {base n : Nat} {size : Nat} {v : Value} {xs : List Value} (ho : w.ownsRow base 22 size v n xs) : v.ownBlock ≠ some O := by
  intro e
  obtain ⟨hl, ⟨rfl, _⟩ | ⟨g, cap, cur, rfl, hg, hh, _⟩⟩ := ho
  · cases e
  · injection e with e
    have e' : g = O := e
    rw [e', h] at hh
    injection hh with hh
    injection hh with _ h1 _
    exact absurd h1 (by decide)
end
theorem t51_new (w : World) (t : T8) : T51 (w.alloc (.cells #[.complex .f32 t.a t.b, .complex .f32 t.c t.d, .complex .f32 t.e t.f, .complex .f32 t.g t.h] 51)) w.heap.size t := heap_alloc_new w _
theorem own_put4 {w : World} {base n : Nat} {e : TypeId} {size : Nat} {v : Value} {xs : List Value} {T : Nat} (h : w.ownsRow base e size v n xs) (hv : v.ownBlock ≠ some T) (u0 u1 u2 u3 : Value) :
    World.ownsRow ((((w.setCell ⟨T, 0, none⟩ u0).setCell ⟨T, 1, none⟩ u1).setCell ⟨T, 2, none⟩ u2).setCell ⟨T, 3, none⟩ u3) base e size v n xs := Tb.put_own h hv u0 u1 u2 u3
/-- What the reference's loop keeps. -/
structure Lq (w : World) (O : Nat) (xs : List Pl.Pu) (k : Nat) (v : Value) (wr : World) : Prop where
  own : wr.ownsRow w.heap.size 22 1 v k (fvals (dvs xs k))
  tab : k ≤ xs.length → T51 wr O (sT 0 xs k)
  bel : Below w.heap.size w wr
  hO : w.heap.size ≤ O
  hO2 : O < wr.heap.size
/-- Behind the product. -/
def Mq (w : World) (O : Nat) (xs : List Pl.Pu) (k : Nat) (v : Value) (U : T8) (s4 s6 : Value) (wx : World) : Prop :=
  s4 = v ∧ s6 = .int .i64 (k : Int) ∧ wx.ownsRow w.heap.size 22 1 v (k + 1) (fvals (dvs xs (k + 1))) ∧ T51 wx O U ∧ Below w.heap.size w wx
theorem sT_lim61 {xs : List Pl.Pu} (hs : Pl.isSeq xs = true) {k : Nat} (hk : k ≤ xs.length) : limT 61 (sT 0 xs k) := by
  have hl := (hs_of hs).1
  exact (sT_lim hs hk).mono (by omega)
theorem frd_of_own {w : World} {base n : Nat} {v : Value} {l : List Nat} (h : w.ownsRow base 22 1 v n (fvals l)) (hl : l.length = n) (hn : n ≠ 0) : ∃ g cap, v = .slice (some ⟨g, 0, none⟩) n cap ∧ FRd w (some ⟨g, 0, none⟩) l := by
  have HW := h
  obtain ⟨_, ⟨rfl, h0⟩ | ⟨g, cap, cur, rfl, hg, hh, rest⟩⟩ := h
  · exact absurd h0 hn
  · refine ⟨g, cap, rfl, fun j x hx => ⟨g, 0, rfl, (Array.getElem?_eq_some_iff.1 hh).1, ?_⟩⟩
    have := HW.cells (g := g) rfl j (.float .f32 x) (by simp [fvals, hx])
    rw [addr_plus] at this
    exact this
set_option maxRecDepth 100000 in
set_option maxHeartbeats 4000000 in
theorem specDrifts1_yes (A : Option Addr) (c : Nat) (xs : List Pl.Pu) (w : World) (hs : Pl.isSeq xs = true) (hr : Pl.Rd w A xs) :
    Calls Try.prog 64 #[.slice A xs.length c] w (MadeF2 (dvs xs (xs.length + 1)) 0 w) := by
  obtain ⟨hl, hh⟩ := hs_of hs
  have HH := Lib.hid hh; clear hh
  have HR := Lib.hid hr; clear hr
  obtain ⟨i0, hi, hz0, hz1, hz2⟩ := info_parts info22
  have HI := Lib.hid hi; clear hi
  have HZ0 := Lib.hid hz0; clear hz0
  have HZ1 := Lib.hid hz1; clear hz1
  have HZ2 := Lib.hid hz2; clear hz2
  obtain ⟨u0, hu0⟩ : ∃ u, unitT = u := ⟨_, rfl⟩
  have KU := Lib.hid (fun w => unit_val w u0 hu0)
  have HU := Lib.hid hu0; clear hu0
  have HS := Lib.hid hs
  have H0 := Lib.hid (heap_alloc_new w (.cells #[] 22))
  have B0 := Lib.hid ((Below.refl w.heap.size w).alloc (Nat.le_refl _) (.cells #[] 22))
  unfold MadeF2
  go_enter Try.func64, Try.ntmps64
  go_wp2_with (go_at_call 84; refine (Pl.l05Is_any _ _ _ _ (by omega) HR.out).mono ?_; rintro e w' ⟨rfl, rfl⟩; rw [hs])
  clear hs
  refine (KU.out _).mono ?_
  rintro e w1 ⟨rfl, b1⟩
  have hO : w.heap.size < w1.heap.size := by have := b1.size; simp at this; omega
  have O1 := Lib.hid (show w1.ownsRow w.heap.size 22 1 (.slice (some ⟨w.heap.size, 0, none⟩) 0 0) 0 (fvals (dvs xs 0)) from
    ⟨rfl, .inr ⟨w.heap.size, 0, #[], rfl, Nat.le_refl _, (b1.block w.heap.size (by simp)).trans H0.out, Nat.le_refl _, Nat.zero_le _, rfl, rfl⟩⟩)
  have B1 := Lib.hid (B0.out.trans (b1.mono B0.out.size))
  have L2 := Lib.hid (show Lq w w1.heap.size xs 0 (.slice (some ⟨w.heap.size, 0, none⟩) 0 0) (w1.alloc (.cells #[.complex .f32 u0.a u0.b, .complex .f32 u0.c u0.d, .complex .f32 u0.e u0.f, .complex .f32 u0.g u0.h] 51)) from
    ⟨O1.out.alloc _, fun _ => by rw [show sT 0 xs 0 = u0 from HU.out]; exact t51_new _ _, B1.out.alloc B1.out.size _, Nat.le_of_lt hO, by simp⟩)
  clear b1 H0 B0 O1 B1 KU HU
  go_wp2
  go_loopw [4, 6] (fun v i wr => ∃ k : Nat, k ≤ xs.length + 1 ∧ i = .int .i64 k ∧ Lq w w1.heap.size xs k v wr) (fun _ i _ => xs.length + 1 - (intOf i).toNat)
  case atStart => exact ⟨0, Nat.zero_le _, rfl, L2.out⟩
  case round =>
    obtain ⟨k, hk, rfl, hL⟩ := hrel
    clear L2
    by_cases hle : k ≤ xs.length
    · have hT := hL.tab hle
      have hlim := sT_lim61 HS.out hle
      obtain ⟨t, ht⟩ : ∃ t, sT 0 xs k = t := ⟨_, rfl⟩
      have hdv : dv xs k = cz (drR t) := by rw [← ht]; rfl
      rw [ht] at hT hlim
      obtain ⟨r, hr⟩ : ∃ r, cz (drR t) = r := ⟨_, rfl⟩
      have KD := Lib.hid (fun w => drift_val t hlim w)
      rw [hr] at KD hdv
      have HT := Lib.hid ht; clear ht
      have HD := Lib.hid hdv; clear hdv hr
      have HLm := Lib.hid hlim; clear hlim
      have LL := Lib.hid hL; clear hL
      have T0 := Lib.hid hT; clear hT
      obtain ⟨c0, c1, c2, c3⟩ := T0.out.row.cells
      go_wp2_with fail
      refine (KD.out _).mono ?_
      rintro e w5 ⟨rfl, b5⟩
      have T5 := Lib.hid (T0.out.below b5 T0.out.lt)
      have O5 := Lib.hid (ownsRow_below LL.out.own b5)
      have B5 := Lib.hid (LL.out.bel.trans (b5.mono LL.out.bel.size))
      clear b5 c0 c1 c2 c3 T0
      have hsz := B5.out.size
      have T6 := Lib.hid (T5.out.alloc (.cells #[.float .f32 r] 22))
      have O6 := Lib.hid (World.ownsRow.alloc O5.out (.cells #[.float .f32 r] 22))
      have B6 := Lib.hid (B5.out.alloc B5.out.size (.cells #[.float .f32 r] 22))
      go_wp2_with (at_builtin; refine wpList_append_own _ rfl _ _ 41 rfl w.heap.size 22 i0 (.float .f32 0) 1 4 Try.underlying41 HI.out HZ0.out HZ1.out HZ2.out rfl (by decide) _ _ _ rfl O6.out ⟨w5.heap.size, 0, none⟩ 1 1 [.float .f32 r] rfl rfl ?c1 ?c2 ?c3 ?c4 ?c5 ?_)
      case c1 =>
        intro j u hj
        match j, hj with
        | 0, hj => cases hj; exact cell_first w5 _ _
      case c2 => intro u hu; simp at hu; subst hu; rfl
      case c3 => unfold maxLen; omega
      case c4 => omega
      case c5 => simp; omega
      intro v' w7 hown' hgrow _
      rw [← HD.out, ← dvs_succ] at hown'
      have O7 := Lib.hid hown'
      have T7 := Lib.hid (T6.out.keep (hgrow.block _ T6.out.lt (fun e => T6.out.ne O6.out e.symm)))
      have B7 := Lib.hid (B6.out.grown hgrow B6.out.size (fun g hg => (O6.out.lt g hg).1))
      clear hown' hgrow T6 O6 B6 T5 O5 B5
      rcases Nat.lt_or_ge k xs.length with hlt | hge
      · obtain ⟨p, hp⟩ : ∃ p, xs[k]? = some p := ⟨_, List.getElem?_eq_getElem hlt⟩
        obtain ⟨b, off, rfl, hbl, p0, p1, p2⟩ := (HR.out.below B7.out) k p hp
        obtain ⟨h', hh', hh24⟩ := HH.out k p hp
        have hpu := plT_pur p (by rw [hh']; simpa using hh24)
        have hsucc := sT0_succ hp
        obtain ⟨pa, ph, pb⟩ := p
        dsimp only at hh' p0 p1 p2
        subst hh'
        obtain ⟨P, hP⟩ : ∃ P, plT ⟨pa, (h' : Int), pb⟩ = P := ⟨_, rfl⟩
        rw [hP] at hpu hsucc
        rw [HT.out] at hsucc
        obtain ⟨U, hU⟩ : ∃ U, tmT P t = U := ⟨_, rfl⟩
        rw [hU] at hsucc
        have KP := Lib.hid (fun w => pulse_val pa h' pb w hh24 P hP)
        have KT := Lib.hid (fun w => times_val P t w U hU hpu HLm.out (by omega) (by omega))
        have i1 : (k : Int) < (xs.length : Int) := by omega
        have i0 : (0 : Int) ≤ (k : Int) := by omega
        obtain ⟨c0, c1, c2, c3⟩ := T7.out.row.cells
        have g0 := T7.out.row.frozen 0
        have g1 := T7.out.row.frozen 1
        have g2 := T7.out.row.frozen 2
        have g3 := T7.out.row.frozen 3
        have HP := Lib.hid hp; clear hp
        have HSU := Lib.hid hsucc; clear hsucc hpu hP hU
        go_wp2_with fail
        go_region_with
          (first
            | (go_at_call 96; refine (KP.out _).mono ?_; rintro e' w8 ⟨rfl, b8⟩; have T8' := Lib.hid (T7.out.drew.below b8 T7.out.drew.lt); have O8 := Lib.hid (ownsRow_below (ownsRow_below O7.out ((Below.refl _ _).drew)) b8); have B8 := Lib.hid (B7.out.drew.trans (b8.mono B7.out.drew.size)); obtain ⟨x0, x1, x2, x3⟩ := T8'.out.row.cells; obtain ⟨b', off', hA', _, q0, q1, q2⟩ := (HR.out.below B8.out) k _ HP.out; cases hA'; clear b8)
            | (go_at_call 95; refine (KT.out _).mono ?_; rintro e' w9 ⟨rfl, b9⟩; have T9 := Lib.hid (T8'.out.below b9 T8'.out.lt); have O9 := Lib.hid (ownsRow_below O8.out b9); have B9 := Lib.hid (B8.out.trans (b9.mono B8.out.size)); obtain ⟨x0, x1, x2, x3⟩ := T9.out.row.cells; have g0 := T9.out.row.frozen 0; have g1 := T9.out.row.frozen 1; have g2 := T9.out.row.frozen 2; have g3 := T9.out.row.frozen 3; obtain ⟨b', off', hA', _, q0, q1, q2⟩ := (HR.out.below B9.out) k _ HP.out; cases hA'; clear b9))
        all_goals
          clear p0 p1 p2
          go_wp2
          exact ⟨⟨k + 1, by omega, by go_num, ⟨own_put4 O9.out (T9.out.ne O9.out) _ _ _ _, fun _ => by rw [HSU.out]; exact T9.out.put U, below_set4 B9.out (Nat.le_of_lt hO) _ _ _ _, Nat.le_of_lt hO, (T9.out.put U).lt⟩⟩, by simp [intOf]; omega⟩
      · obtain rfl : k = xs.length := by omega
        have LN := Lib.hid (show Lq w w1.heap.size xs (xs.length + 1) v' w7 from ⟨O7.out, fun h => by omega, B7.out, Nat.le_of_lt hO, T7.out.lt⟩)
        clear O7 T7 B7 LL
        go_wp2
        exact ⟨⟨xs.length + 1, by omega, by go_num, LN.out⟩, by simp [intOf]⟩
    · obtain rfl : k = xs.length + 1 := by omega
      obtain ⟨g, cap, rfl, hrd⟩ := frd_of_own hL.own (dvs_length _ _) (by omega)
      have HRD := Lib.hid hrd; clear hrd
      have BB := Lib.hid hL.bel; clear hL
      have hno : ¬ ((xs.length : Int) + 1 ≤ (xs.length : Int)) := by omega
      have hno' : ((xs.length + 1 : Nat) : Int) = (xs.length : Int) + 1 := by omega
      rw [hno']
      go_wp2
      go_ret2
      have e1 := dvs_length xs (xs.length + 1)
      refine ⟨some ⟨g, 0, none⟩, ⟨cap, ?_⟩, HRD.out, BB.out⟩
      rw [e1]
      rfl
end Go.Proofs.Ytkfahacnanlnfaa
