/- Walks: renewal, the reference's side. -/
/- Walks: tables of sequences, the reference's side. -/
import Derived.Test.YtkfahacnanlnfaaZEj
namespace Go.Proofs.Ytkfahacnanlnfaa
open Go.RowKit Ieee
attribute [local go_sem ↓] Go.wp_at_zero Go.wp_at_succ

theorem sq_run {a b : Nat} {K : Int} (h : two K a b) (h1 : -74 ≤ K) (h2 : K ≤ 62) : ExRun a a b b ∧ lim single (K + K + 1) (exV a a b b) := by
  obtain ⟨r, l, _⟩ := ex_ok (M := K + K) h.1 h.1 h.2 h.2 (by omega) (by omega) (by omega) (by omega) (by omega)
  exact ⟨r, l⟩
theorem l03Norm_any (a b c d e f g k : Nat) (K : Int) (w : World) (h : two K a b) (h' : two K c d) (h1 : -74 ≤ K) (h2 : K ≤ 62) :
    Calls Try.prog 134 #[.agg #[.complex .f32 a b, .complex .f32 c d, .complex .f32 e f, .complex .f32 g k]] w fun e' w' => e' = .returned (.float .f32 (rq a b c d)) ∧ Below w.heap.size w w' := by
  obtain ⟨r1, l1⟩ := sq_run h h1 h2
  obtain ⟨r2, l2⟩ := sq_run h' h1 h2
  have K1 := Lib.hid (fun w => l01Square_any a b w h.1.fin h.2.fin r1)
  have K2 := Lib.hid (fun w => l01Square_any c d w h'.1.fin h'.2.fin r2)
  have ka := run_opF (.inl rfl) l1.fin l2.fin
  rw [show op32 .add (exV a a b b) (exV c c d d) = rq a b c d from rfl] at ka
  clear r1 r2 l1 l2 h h'
  generalize rq a b c d = q at *
  generalize exV a a b b = x at *
  generalize exV c c d d = y at *
  obtain ⟨c0, c1, c2, c3⟩ := (row4_new w (.complex .f32 a b) (.complex .f32 c d) (.complex .f32 e f) (.complex .f32 g k) 51).cells
  go_enter Try.func134, Try.ntmps134
  go_wp2
  go_quiet (first | (go_at_call_of 148 (Value.complex FloatKind.f32 a b); exact Calls.quiet_of_same ((K1.out _).mono fun _ _ h => ⟨h.1, h.2.symm⟩)) | (go_at_call_of 148 (Value.complex FloatKind.f32 c d); exact Calls.quiet_of_same ((K2.out _).mono fun _ _ h => ⟨h.1, h.2.symm⟩)))
  go_wp2
  go_ret
  exact ⟨rfl, belowDrewN ((Below.refl _ _).alloc (Nat.le_refl _) _) _⟩
/-- The parts of a renewed table. -/
def renT (t : T8) : T8 :=
  ⟨op32 .quo t.a (rtv (rq t.a t.b t.c t.d)), op32 .quo t.b (rtv (rq t.a t.b t.c t.d)), op32 .quo t.c (rtv (rq t.a t.b t.c t.d)), op32 .quo t.d (rtv (rq t.a t.b t.c t.d)),
   ng (op32 .quo t.c (rtv (rq t.a t.b t.c t.d))), ng (ng (op32 .quo t.d (rtv (rq t.a t.b t.c t.d)))), op32 .quo t.a (rtv (rq t.a t.b t.c t.d)), ng (op32 .quo t.b (rtv (rq t.a t.b t.c t.d)))⟩
/-- Whether a renewal finds a root of 0. -/
def deadT (t : T8) : Bool := root0 (rq t.a t.b t.c t.d) == 0
def zeroT : T8 := ⟨0, 0, 0, 0, 0, 0, 0, 0⟩
theorem run_negC (x y : Nat) (w : World) : (Op.unary .neg (.complex .f32 x y)).run Try.prog w = .ok (.complex .f32 (ng x) (ng y)) w := rfl
theorem rtv_ne {q m : Nat} {e : Int} (h : single.read q = .number false m e) (hm : m ≠ 0) : (rtv q == 0) = false ∧ (FloatKind.f32.format.order (rtv q) 0 == some .eq) = false := by
  obtain ⟨m', e', h1, h2, _⟩ := rtv_read h hm
  constructor
  · rw [beq_eq_false_iff_ne]
    intro h0
    rw [h0] at h1
    have : single.read 0 = .number false 0 (-149) := by decide +kernel
    rw [this] at h1
    injection h1 with _ h5
    exact h2 h5.symm
  · show (single.order (rtv q) 0 == some .eq) = false
    rw [order_read h1, if_neg h2]
    rfl
set_option maxHeartbeats 1000000 in
theorem l03Renew_yes (t : T8) (K : Int) (w : World) (h : limT K t) (h1 : -74 ≤ K) (h2 : K ≤ 62) (hd : deadT t = false) : Calls Try.prog 109 #[t.val] w (MadeT2 (renT t) 0 w) ∧ limT 1 (renT t) := by
  obtain ⟨lq, hc⟩ := renew_parts h.1 h.2.1 h1 h2
  rcases hc with ⟨h0, _⟩ | ⟨h0, ⟨mq, eq, hqr, hq0⟩, p1, p2, p3, p4⟩
  · unfold deadT at hd; rw [h0] at hd; exact absurd hd (by decide)
  have hlim : limT 1 (renT t) := ⟨⟨p1.2.1, p2.2.1⟩, ⟨p3.2.1, p4.2.1⟩, ⟨lim_ng p3.2.1, lim_ng (lim_ng p4.2.1)⟩, ⟨p1.2.1, lim_ng p2.2.1⟩⟩
  refine ⟨?_, hlim⟩
  obtain ⟨a, b, c, d, e, f, g, k⟩ := t
  have HL := Lib.hid hlim; clear hlim
  have KN := Lib.hid (fun w => l03Norm_any a b c d e f g k K w h.1 h.2.1 h1 h2)
  have KF := Lib.hid (fun w => l01Fine_yes (rq a b c d) w lq.fin)
  have KR := Lib.hid (fun w => l01Root_pos (rq a b c d) mq eq w hqr hq0)
  have hn0 := (rtv_ne hqr hq0).2
  have KP := Lib.hid (fun w => l03Part_any a b (rtv (rq a b c d)) _ _ w p1.1 p2.1)
  have KP' := Lib.hid (fun w => l03Part_any c d (rtv (rq a b c d)) _ _ w p3.1 p4.1)
  clear p1 p2 p3 p4 hqr hq0 h0 h hd lq
  unfold MadeT2 renT T8.val quad at *
  dsimp only at *
  generalize rq a b c d = q at *
  generalize rtv q = n at *
  generalize op32 .quo a n = A at *
  generalize op32 .quo b n = B at *
  generalize op32 .quo c n = C at *
  generalize op32 .quo d n = D at *
  have KC := Lib.hid (fun w => l01Conj_any C D w)
  have KC' := Lib.hid (fun w => l01Conj_any A B w)
  have hng := run_negC C (ng D)
  generalize ng C = nC at *
  generalize ng (ng D) = nnD at *
  generalize ng D = nD at *
  generalize ng B = nB at *
  have KT := Lib.hid (fun w => l03Told_yes A B C D nC nnD A nB 1 w HL.out)
  have Y0 := Lib.hid ((row4_new w (.complex .f32 a b) (.complex .f32 c d) (.complex .f32 e f) (.complex .f32 g k) 51).alloc (.cells #[.complex .f32 0 0, .complex .f32 0 0, .complex .f32 0 0, .complex .f32 0 0] 51))
  have X := row4_new (w.alloc (.cells #[.complex .f32 a b, .complex .f32 c d, .complex .f32 e f, .complex .f32 g k] 51)) (.complex .f32 0 0) (.complex .f32 0 0) (.complex .f32 0 0) (.complex .f32 0 0) 51
  simp only [World.size_alloc] at X
  have X0 := Lib.hid X; clear X
  have B0 := Lib.hid (((Below.refl w.heap.size w).alloc (Nat.le_refl _) (.cells #[.complex .f32 a b, .complex .f32 c d, .complex .f32 e f, .complex .f32 g k] 51)).alloc (by simp) (.cells #[.complex .f32 0 0, .complex .f32 0 0, .complex .f32 0 0, .complex .f32 0 0] 51))
  go_enter Try.func109, Try.ntmps109
  go_wp2_with fail
  refine (KN.out _).mono ?_
  rintro e' w1 ⟨rfl, b1⟩
  have X1 := Lib.hid (X0.out.below b1 X0.out.lt)
  have Y1 := Lib.hid (Y0.out.below b1 Y0.out.lt)
  have B1 := Lib.hid (B0.out.trans (b1.mono B0.out.size))
  clear b1 X0 Y0 B0
  go_wp2_with fail
  refine (KF.out _).mono ?_
  rintro e' w' ⟨rfl, rfl⟩
  go_wp2_with fail
  refine (KR.out _).mono ?_
  rintro e' w' ⟨rfl, rfl⟩
  obtain ⟨c0, c1, c2, c3⟩ := Y1.out.cells
  go_wp2
  go_quiet (first | (go_at_call_of 135 (Value.complex FloatKind.f32 a b); exact Calls.quiet_of_same ((KP.out _).mono fun _ _ h => ⟨h.1, h.2.symm⟩)) | (go_at_call_of 135 (Value.complex FloatKind.f32 c d); exact Calls.quiet_of_same ((KP'.out _).mono fun _ _ h => ⟨h.1, h.2.symm⟩)))
  have X2 := Lib.hid (show Row4 (w1.drewN nq) _ _ _ _ _ from X1.out)
  have B2 := Lib.hid (belowDrewN B1.out nq)
  generalize w1.drewN nq = w2 at *
  clear c0 c1 c2 c3 X1 B1 Y1
  go_wp2_with fail
  refine (KC.out _).mono ?_
  rintro e' w' ⟨rfl, rfl⟩
  go_wp2_with (simp only [hng])
  refine (KC'.out _).mono ?_
  rintro e' w' ⟨rfl, rfl⟩
  go_wp2_with fail
  refine (KT.out _).mono ?_
  rintro e' w3 ⟨rfl, b3⟩
  have X3 := Lib.hid (X2.out.below b3 X2.out.lt)
  have B3 := Lib.hid (B2.out.trans (b3.mono B2.out.size))
  clear b3 X2 B2
  obtain ⟨d0, d1, d2, d3⟩ := X3.out.cells
  have g0 := X3.out.frozen 0
  have g1 := X3.out.frozen 1
  have g2 := X3.out.frozen 2
  have g3 := X3.out.frozen 3
  go_wp2
  obtain ⟨k0, k1, k2, k3⟩ := (X3.out.put (.complex .f32 A B) (.complex .f32 C D) (.complex .f32 nC nnD) (.complex .f32 A nB)).cells
  refine bodyPost_ret (v := .tuple #[.agg #[.complex .f32 A B, .complex .f32 C D, .complex .f32 nC nnD, .complex .f32 A nB], .int .i64 0]) (by simp [results, Try.results109, go_sem, k0, k1, k2, k3]) rfl ?_
  exact ⟨rfl, below_set4 B3.out (by omega) _ _ _ _⟩
theorem l03Renew_no (t : T8) (K : Int) (w : World) (h : limT K t) (h1 : -74 ≤ K) (h2 : K ≤ 62) (hd : deadT t = true) : Calls Try.prog 109 #[t.val] w (MadeT2 zeroT 5 w) := by
  obtain ⟨lq, hc⟩ := renew_parts h.1 h.2.1 h1 h2
  rcases hc with ⟨h0, zq⟩ | ⟨h0, ⟨mq, eq, hqr, hq0⟩, _⟩
  case inr => unfold deadT at hd; rw [h0, (rtv_ne hqr hq0).1] at hd; exact absurd hd (by decide)
  obtain ⟨a, b, c, d, e, f, g, k⟩ := t
  obtain ⟨s, zq⟩ := zq
  have hoz : (single.order (rq a b c d) 0 == some .eq) = true := by
    have := order_read zq
    rw [if_pos rfl] at this
    rw [this]; rfl
  have KN := Lib.hid (fun w => l03Norm_any a b c d e f g k K w h.1 h.2.1 h1 h2)
  have KF := Lib.hid (fun w => l01Fine_yes (rq a b c d) w lq.fin)
  have KR := Lib.hid (fun w => l01Root_zero (rq a b c d) w hoz)
  have hn0 : (FloatKind.f32.format.order 0 0 == some .eq) = true := by decide +kernel
  clear h0 h hd lq hoz zq
  unfold MadeT2 zeroT T8.val quad at *
  dsimp only at *
  generalize rq a b c d = q at *
  have Y0 := Lib.hid ((row4_new w (.complex .f32 a b) (.complex .f32 c d) (.complex .f32 e f) (.complex .f32 g k) 51).alloc (.cells #[.complex .f32 0 0, .complex .f32 0 0, .complex .f32 0 0, .complex .f32 0 0] 51))
  have X := row4_new (w.alloc (.cells #[.complex .f32 a b, .complex .f32 c d, .complex .f32 e f, .complex .f32 g k] 51)) (.complex .f32 0 0) (.complex .f32 0 0) (.complex .f32 0 0) (.complex .f32 0 0) 51
  simp only [World.size_alloc] at X
  have X0 := Lib.hid X; clear X
  have B0 := Lib.hid (((Below.refl w.heap.size w).alloc (Nat.le_refl _) (.cells #[.complex .f32 a b, .complex .f32 c d, .complex .f32 e f, .complex .f32 g k] 51)).alloc (by simp) (.cells #[.complex .f32 0 0, .complex .f32 0 0, .complex .f32 0 0, .complex .f32 0 0] 51))
  go_enter Try.func109, Try.ntmps109
  go_wp2_with fail
  refine (KN.out _).mono ?_
  rintro e' w1 ⟨rfl, b1⟩
  have X1 := Lib.hid (X0.out.below b1 X0.out.lt)
  have B1 := Lib.hid (B0.out.trans (b1.mono B0.out.size))
  clear b1 X0 Y0 B0
  go_wp2_with fail
  refine (KF.out _).mono ?_
  rintro e' w' ⟨rfl, rfl⟩
  go_wp2_with fail
  refine (KR.out _).mono ?_
  rintro e' w' ⟨rfl, rfl⟩
  obtain ⟨d0, d1, d2, d3⟩ := X1.out.cells
  have g0 := X1.out.frozen 0
  have g1 := X1.out.frozen 1
  have g2 := X1.out.frozen 2
  have g3 := X1.out.frozen 3
  go_wp2
  obtain ⟨k0, k1, k2, k3⟩ := (X1.out.put (.complex .f32 0 0) (.complex .f32 0 0) (.complex .f32 0 0) (.complex .f32 0 0)).cells
  refine bodyPost_ret (v := .tuple #[.agg #[.complex .f32 0 0, .complex .f32 0 0, .complex .f32 0 0, .complex .f32 0 0], .int .i64 5]) (by simp [results, Try.results109, go_sem, k0, k1, k2, k3]) rfl ?_
  exact ⟨rfl, below_set4 B1.out (by omega) _ _ _ _⟩
end Go.Proofs.Ytkfahacnanlnfaa
namespace Go.Proofs.Ytkfahacnanlnfaa
open Go.RowKit Ieee
attribute [local go_sem ↓] Go.wp_at_zero Go.wp_at_succ

/-- One pulse more; none where a renewal finds no root. -/
def stepT (m : Int) (i : Nat) (p : Pl.Pu) (t : T8) : Option T8 :=
  if 0 < m ∧ ((i : Int) + 1) % m = 0 then (if deadT (tmT (plT p) t) then none else some (renT (tmT (plT p) t))) else some (tmT (plT p) t)
/-- The table of so many pulses. -/
def tbl (m : Int) (xs : List Pl.Pu) : Nat → Option T8
  | 0 => some unitT
  | k + 1 => (tbl m xs k).bind fun t => match xs[k]? with | some p => stepT m k p t | none => some t
theorem tbl_succ (m : Int) (xs : List Pl.Pu) (k : Nat) (t : T8) (p : Pl.Pu) (h : tbl m xs k = some t) (hp : xs[k]? = some p) : tbl m xs (k + 1) = stepT m k p t := by
  show (tbl m xs k).bind _ = _
  rw [h, hp]; rfl
theorem unitT_lim : limT 0 unitT := by
  have l1 := lim_one
  have l0 : lim single 0 0 := lim0
  have ln := lim_ng l0
  exact ⟨⟨l1, ln⟩, ⟨ln, ln⟩, ⟨l0, ln⟩, ⟨l1, l0⟩⟩
theorem hs_of {xs : List Pl.Pu} (hs : Pl.isSeq xs = true) : xs.length ≤ 60 ∧ ∀ (k : Nat) (p : Pl.Pu), xs[k]? = some p → ∃ h : Nat, p.h = h ∧ h ≤ 24 := by
  unfold Pl.isSeq at hs
  simp only [Bool.and_eq_true, decide_eq_true_eq, List.all_eq_true] at hs
  refine ⟨hs.1, fun k p hp => ?_⟩
  have := hs.2 p (List.mem_of_getElem? hp)
  unfold Pl.Pu.ok Pl.inB at this
  simp only [Bool.and_eq_true, decide_eq_true_eq] at this
  exact ⟨p.h.toNat, by omega, by omega⟩
theorem stepT_lim {m : Int} {i : Nat} {p : Pl.Pu} {t u : T8} (hp : ∃ h : Nat, p.h = h ∧ h ≤ 24) (hi : i < 60) (ht : limT ((i : Int) + 1) t) (h : stepT m i p t = some u) : limT ((i : Int) + 2) u := by
  obtain ⟨k, hk, hk2⟩ := hp
  have hpu := plT_pur p (by rw [hk]; simpa using hk2)
  have h1 : limT ((i : Int) + 1 + 1) (tmT (plT p) t) := tmT_lim hpu ht (by omega) (by omega)
  rw [show (i : Int) + 1 + 1 = (i : Int) + 2 by omega] at h1
  unfold stepT at h
  split at h
  · split at h
    · cases h
    · rename_i hd
      cases h
      have := (l03Renew_yes (tmT (plT p) t) _ default h1 (by omega) (by omega) (by simpa using hd)).2
      exact this.mono (by omega)
  · cases h; exact h1
theorem tbl_lim {m : Int} {xs : List Pl.Pu} (hs : Pl.isSeq xs = true) : ∀ k t, k ≤ xs.length → tbl m xs k = some t → limT ((k : Int) + 1) t := by
  obtain ⟨hl, hh⟩ := hs_of hs
  intro k
  induction k with
  | zero => intro t _ h; cases h; exact unitT_lim.mono (by omega)
  | succ k ih =>
    intro t hk h
    obtain ⟨p, hp⟩ : ∃ p, xs[k]? = some p := ⟨_, List.getElem?_eq_getElem (by omega)⟩
    cases h0 : tbl m xs k with
    | none =>
      have : tbl m xs (k + 1) = none := by show (tbl m xs k).bind _ = _; rw [h0]; rfl
      rw [this] at h; cases h
    | some t0 =>
      rw [tbl_succ m xs k t0 p h0 hp] at h
      have := stepT_lim (hh k p hp) (by omega) (ih t0 (by omega) h0) h
      rw [show ((k + 1 : Nat) : Int) + 1 = (k : Int) + 2 by omega]
      exact this
/-- Once there is none, there is none. -/
theorem tbl_none {m : Int} {xs : List Pl.Pu} {k : Nat} (h : tbl m xs k = none) : ∀ j, k ≤ j → tbl m xs j = none := by
  intro j hj
  induction j with
  | zero =>
    have h0 : k = 0 := by omega
    rw [h0] at h
    exact h
  | succ j ih =>
    rcases Nat.lt_or_ge j k with h1 | h1
    · obtain rfl : k = j + 1 := by omega
      exact h
    · show (tbl m xs j).bind _ = _
      rw [ih h1]; rfl
/-- The values that come back. -/
def tblV (m : Int) (xs : List Pl.Pu) : T8 := (tbl m xs xs.length).getD zeroT
def tblC (m : Int) (xs : List Pl.Pu) : Int := if (tbl m xs xs.length).isSome then 0 else 5
end Go.Proofs.Ytkfahacnanlnfaa
