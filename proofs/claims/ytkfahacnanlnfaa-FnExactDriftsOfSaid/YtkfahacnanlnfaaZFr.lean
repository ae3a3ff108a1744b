/- Walks: what is told of a table. -/
/- Walks: the program's renewed table, to the end. -/
/- Walks: two tables compared. -/
/- The walk of the law on renewed tables. -/
import Derived.Test.YtkfahacnanlnfaaZBd
import Derived.Test.YtkfahacnanlnfaaZEo
import Derived.Test.YtkfahacnanlnfaaZFn
namespace Go.Proofs.Ytkfahacnanlnfaa
open Go.RowKit Ieee
attribute [local go_sem ↓] Go.wp_at_zero Go.wp_at_succ

theorem toldT_yes (B : Nat) (t : T8) (w : World) (h : CalcAt w B 0) : Calls Try.prog 60 #[.pointer (some ⟨B, 0, none⟩), .agg #[.complex .f32 t.a t.b, .complex .f32 t.c t.d, .complex .f32 t.e t.f, .complex .f32 t.g t.h]] w
    fun e w' => e = .returned (.tuple #[.agg #[.complex .f32 t.a t.b, .complex .f32 t.c t.d, .complex .f32 t.e t.f, .complex .f32 t.g t.h], .int .i64 0]) ∧ Below w.heap.size w w' := by
  have b0 : Below w.heap.size w ((w.alloc (.cells #[.complex .f32 t.a t.b, .complex .f32 t.c t.d, .complex .f32 t.e t.f, .complex .f32 t.g t.h] 51)).alloc (.cells #[.complex .f32 0 0, .complex .f32 0 0, .complex .f32 0 0, .complex .f32 0 0] 51)) := ((Below.refl _ _).alloc (Nat.le_refl _) _).alloc (by simp) _
  have hc := (h.below b0 h.lt).cell
  clear b0 h
  go_enter Try.func60, Try.ntmps60
  go_wp2_with fail
  refine bodyPost_ret (v := .tuple #[.agg #[.complex .f32 t.a t.b, .complex .f32 t.c t.d, .complex .f32 t.e t.f, .complex .f32 t.g t.h], .int .i64 0]) (by simp [results, Try.results60, go_sem]) rfl ?_
  exact ⟨rfl, ((Below.refl _ _).alloc (Nat.le_refl _) _).alloc (by simp) _⟩
theorem toldT_no (B : Nat) (q : Int) (t : T8) (w : World) (h : CalcAt w B q) (hq : q ≠ 0) : Calls Try.prog 60 #[.pointer (some ⟨B, 0, none⟩), .agg #[.complex .f32 t.a t.b, .complex .f32 t.c t.d, .complex .f32 t.e t.f, .complex .f32 t.g t.h]] w
    fun e w' => e = .returned (.tuple #[.agg #[.complex .f32 0 0, .complex .f32 0 0, .complex .f32 0 0, .complex .f32 0 0], .int .i64 q]) ∧ Below w.heap.size w w' := by
  have b0 : Below w.heap.size w ((w.alloc (.cells #[.complex .f32 t.a t.b, .complex .f32 t.c t.d, .complex .f32 t.e t.f, .complex .f32 t.g t.h] 51)).alloc (.cells #[.complex .f32 0 0, .complex .f32 0 0, .complex .f32 0 0, .complex .f32 0 0] 51)) := ((Below.refl _ _).alloc (Nat.le_refl _) _).alloc (by simp) _
  have b1 := b0.alloc b0.size (.cells #[.complex .f32 0 0, .complex .f32 0 0, .complex .f32 0 0, .complex .f32 0 0] 51)
  have hc := (h.below b0 h.lt).cell
  have hc1 := (h.below b1 h.lt).cell
  have hb : (q != 0) = true := by simpa using hq
  have Y := row4_new ((w.alloc (.cells #[.complex .f32 t.a t.b, .complex .f32 t.c t.d, .complex .f32 t.e t.f, .complex .f32 t.g t.h] 51)).alloc (.cells #[.complex .f32 0 0, .complex .f32 0 0, .complex .f32 0 0, .complex .f32 0 0] 51)) (.complex .f32 0 0) (.complex .f32 0 0) (.complex .f32 0 0) (.complex .f32 0 0) 51
  have X := (row4_new (w.alloc (.cells #[.complex .f32 t.a t.b, .complex .f32 t.c t.d, .complex .f32 t.e t.f, .complex .f32 t.g t.h] 51)) (.complex .f32 0 0) (.complex .f32 0 0) (.complex .f32 0 0) (.complex .f32 0 0) 51).alloc (.cells #[.complex .f32 0 0, .complex .f32 0 0, .complex .f32 0 0, .complex .f32 0 0] 51)
  simp only [World.size_alloc] at X Y
  have X0 := Lib.hid X
  have B1 := Lib.hid b1
  obtain ⟨x0, x1, x2, x3⟩ := X.cells
  obtain ⟨y0, y1, y2, y3⟩ := Y.cells
  have g0 := X.frozen 0
  have g1 := X.frozen 1
  have g2 := X.frozen 2
  have g3 := X.frozen 3
  have hBl := h.lt
  have n1 : B ≠ w.heap.size + 1 := by omega
  have n2 : w.heap.size + 1 ≠ B := by omega
  clear X Y b0 b1 h
  go_enter Try.func60, Try.ntmps60
  go_wp2_with fail
  generalize ((w.alloc (.cells #[.complex .f32 t.a t.b, .complex .f32 t.c t.d, .complex .f32 t.e t.f, .complex .f32 t.g t.h] 51)).alloc (.cells #[.complex .f32 0 0, .complex .f32 0 0, .complex .f32 0 0, .complex .f32 0 0] 51)).alloc (.cells #[.complex .f32 0 0, .complex .f32 0 0, .complex .f32 0 0, .complex .f32 0 0] 51) = w3 at X0 B1 hc1 x0 x1 x2 x3 y0 y1 y2 y3 g0 g1 g2 g3 ⊢
  go_region_held3 (fun w' => w'.cell? ⟨B, 0, none⟩ = some (.int .i64 q) ∧ w'.cell? ⟨w.heap.size + 1 + 1, 0, none⟩ = some (.complex .f32 0 0) ∧ w'.cell? ⟨w.heap.size + 1 + 1, 1, none⟩ = some (.complex .f32 0 0) ∧ w'.cell? ⟨w.heap.size + 1 + 1, 2, none⟩ = some (.complex .f32 0 0) ∧ w'.cell? ⟨w.heap.size + 1 + 1, 3, none⟩ = some (.complex .f32 0 0)) (go_keep) (fail)
  all_goals
    obtain ⟨k0, k1, k2, k3⟩ := (X0.out.put (.complex .f32 0 0) (.complex .f32 0 0) (.complex .f32 0 0) (.complex .f32 0 0)).drew.cells
    clear x0 x1 x2 x3 y0 y1 y2 y3
    go_wp2
    refine bodyPost_ret (v := .tuple #[.agg #[.complex .f32 0 0, .complex .f32 0 0, .complex .f32 0 0, .complex .f32 0 0], .int .i64 q]) (by simp [results, Try.results60, go_sem, k0, k1, k2, k3]) rfl ?_
    exact ⟨rfl, (below_set4 B1.out (by omega) _ _ _ _).drew⟩
end Go.Proofs.Ytkfahacnanlnfaa
namespace Go.Proofs.Ytkfahacnanlnfaa
open Go.RowKit Ieee
attribute [local go_sem ↓] Go.wp_at_zero Go.wp_at_succ

theorem czT_zero : czT zeroT = zeroT := by
  have h : cz 0 = 0 := by decide +kernel
  unfold czT zeroT
  dsimp only
  rw [h]
theorem toldT_both (m : Int) (xs : List Pl.Pu) (B : Nat) (u V : T8) (q : Int) (hu : iT m xs xs.length = u) (hV : czT (tblV m xs) = V) (hq : tblC m xs = q) (w : World) (h : CalcAt w B (iC m xs xs.length)) : Calls Try.prog 60 #[.pointer (some ⟨B, 0, none⟩), .agg #[.complex .f32 u.a u.b, .complex .f32 u.c u.d, .complex .f32 u.e u.f, .complex .f32 u.g u.h]] w
    fun e w' => e = .returned (.tuple #[.agg #[.complex .f32 V.a V.b, .complex .f32 V.c V.d, .complex .f32 V.e V.f, .complex .f32 V.g V.h], .int .i64 q]) ∧ Below w.heap.size w w' := by
  subst hu hV hq
  unfold iT tblV tblC
  unfold iC at h
  cases ht : tbl m xs xs.length with
  | none =>
    rw [ht] at h
    exact toldT_no B 5 zeroT w h (by decide)
  | some t =>
    rw [ht] at h
    exact toldT_yes B (czT t) w h
set_option maxHeartbeats 1000000 in
theorem implRenewed_any (A : Option Addr) (c : Nat) (xs : List Pl.Pu) (m : Int) (w : World) (hn : xs.length ≤ 1048576) (hm2 : m ≤ 9223372036854775807) (hr : Pl.Rd w A xs) (hA : ∀ b off, A = some ⟨b, off, none⟩ → b < w.heap.size) :
    Calls Try.prog 27 #[.slice A xs.length c, .int .i64 m] w (MadeT2 (czT (rtV m xs)) (rtC m xs) w) := by
  have HR := Lib.hid hr; clear hr
  have HA := Lib.hid hA; clear hA
  have X0 := Lib.hid (row4_new w (.complex .f32 0 0) (.complex .f32 0 0) (.complex .f32 0 0) (.complex .f32 0 0) 51)
  have b0 : Below w.heap.size w (w.alloc (.cells #[.complex .f32 0 0, .complex .f32 0 0, .complex .f32 0 0, .complex .f32 0 0] 51)) := (Below.refl w.heap.size w).alloc (Nat.le_refl _) _
  have R0 := Lib.hid (HR.out.below b0)
  have B0 := Lib.hid b0; clear b0
  unfold rtV rtC
  cases hs : Pl.isSeq xs with
  | false =>
    simp only [Bool.false_eq_true, if_false]
    rw [czT_zero]
    unfold MadeT2 T8.val quad zeroT
    go_enter Try.func27, Try.ntmps27
    go_wp2_with (go_at_call 59; refine (Pl.implIsSequence_any _ _ _ _ hn R0.out).mono ?_; rintro e w1 ⟨rfl, b1⟩; rw [hs]; have X1 := Lib.hid (X0.out.below b1 X0.out.lt); have B1 := Lib.hid (B0.out.trans (b1.mono B0.out.size)); clear b1; obtain ⟨c0, c1, c2, c3⟩ := X1.out.cells; have g0 := X1.out.frozen 0; have g1 := X1.out.frozen 1; have g2 := X1.out.frozen 2; have g3 := X1.out.frozen 3)
    obtain ⟨k0, k1, k2, k3⟩ := (X1.out.put (.complex .f32 0 0) (.complex .f32 0 0) (.complex .f32 0 0) (.complex .f32 0 0)).cells
    refine bodyPost_ret (v := .tuple #[.agg #[.complex .f32 0 0, .complex .f32 0 0, .complex .f32 0 0, .complex .f32 0 0], .int .i64 1]) (by simp [results, Try.results27, go_sem, k0, k1, k2, k3]) rfl ?_
    exact ⟨rfl, below_set4 B1.out (Nat.le_refl _) _ _ _ _⟩
  | true =>
    simp only [if_true]
    by_cases hm : m < 1
    · rw [if_pos hm, if_pos hm]
      rw [czT_zero]
      unfold MadeT2 T8.val quad zeroT
      go_enter Try.func27, Try.ntmps27
      go_wp2_with (go_at_call 59; refine (Pl.implIsSequence_any _ _ _ _ hn R0.out).mono ?_; rintro e w1 ⟨rfl, b1⟩; rw [hs]; have X1 := Lib.hid (X0.out.below b1 X0.out.lt); have B1 := Lib.hid (B0.out.trans (b1.mono B0.out.size)); clear b1; obtain ⟨c0, c1, c2, c3⟩ := X1.out.cells; have g0 := X1.out.frozen 0; have g1 := X1.out.frozen 1; have g2 := X1.out.frozen 2; have g3 := X1.out.frozen 3)
      obtain ⟨k0, k1, k2, k3⟩ := (X1.out.put (.complex .f32 0 0) (.complex .f32 0 0) (.complex .f32 0 0) (.complex .f32 0 0)).cells
      refine bodyPost_ret (v := .tuple #[.agg #[.complex .f32 0 0, .complex .f32 0 0, .complex .f32 0 0, .complex .f32 0 0], .int .i64 2]) (by simp [results, Try.results27, go_sem, k0, k1, k2, k3]) rfl ?_
      exact ⟨rfl, below_set4 B1.out (Nat.le_refl _) _ _ _ _⟩
    · rw [if_neg hm, if_neg hm]
      obtain ⟨V, hV⟩ : ∃ V, czT (tblV m xs) = V := ⟨_, rfl⟩
      obtain ⟨q, hq⟩ : ∃ q, tblC m xs = q := ⟨_, rfl⟩
      obtain ⟨u, hu⟩ : ∃ u, iT m xs xs.length = u := ⟨_, rfl⟩
      have KT := Lib.hid (fun B w hw => toldT_both m xs B u V q hu hV hq w hw)
      have KS := Lib.hid (fun B w hw hr hA => tables_any B A c xs m w hw hs hr hA (by omega) hm2)
      have HU := Lib.hid hu
      rw [hV, hq]
      clear hV hq hu
      have hlen : (xs.length : Int) < (xs.length : Int) + 1 := by omega
      have hl0 : (0 : Int) ≤ (xs.length : Int) := by omega
      unfold MadeT2 T8.val quad
      go_enter Try.func27, Try.ntmps27
      go_wp2_with (go_at_call 59; refine (Pl.implIsSequence_any _ _ _ _ hn R0.out).mono ?_; rintro e w1 ⟨rfl, b1⟩; rw [hs]; have X1 := Lib.hid (X0.out.below b1 X0.out.lt); have B1 := Lib.hid (B0.out.trans (b1.mono B0.out.size)); have R1 := Lib.hid (R0.out.below b1); clear b1)
      refine (KS.out w1.heap.size _ (calc_new' w1) (R1.out.below ((Below.refl _ _).alloc (Nat.le_refl _) _)) (fun b off e => by have := HA.out b off e; have := B1.out.size; omega)).mono ?_
      rintro e w2 ⟨v, rfl, hT⟩
      have X2 := Lib.hid ((X1.out.alloc (.cells #[.int .i64 0] 67)).keep (hT.hg.block w.heap.size (by have := X1.out.lt; simp; omega) (fun e => by have := Option.some.inj e; have := X1.out.lt; omega)))
      have B2 := Lib.hid (show Below w.heap.size w w2 from (B1.out.alloc B1.out.size (.cells #[.int .i64 0] 67)).grown hT.hg (by have := B1.out.size; simp; omega) (fun g e => by cases e; exact B1.out.size))
      obtain ⟨g, cap, rfl, hg, hgl, hcap, v0, v1, v2, v3⟩ := own_tab hT.own (show xs.length < xs.length + 1 by omega)
      rw [HU.out] at v0 v1 v2 v3
      have T2 := Lib.hid hT.hc
      clear hT
      go_wp2_with fail
      refine (KT.out _ _ T2.out).mono ?_
      rintro e w3 ⟨rfl, b3⟩
      have X3 := Lib.hid (X2.out.below b3 X2.out.lt)
      have B3 := Lib.hid (B2.out.trans (b3.mono B2.out.size))
      clear b3 v0 v1 v2 v3
      have g0 := X3.out.frozen 0
      have g1 := X3.out.frozen 1
      have g2 := X3.out.frozen 2
      have g3 := X3.out.frozen 3
      obtain ⟨c0, c1, c2, c3⟩ := X3.out.cells
      go_wp2
      obtain ⟨k0, k1, k2, k3⟩ := (X3.out.put (.complex .f32 V.a V.b) (.complex .f32 V.c V.d) (.complex .f32 V.e V.f) (.complex .f32 V.g V.h)).cells
      refine bodyPost_ret (v := .tuple #[.agg #[.complex .f32 V.a V.b, .complex .f32 V.c V.d, .complex .f32 V.e V.f, .complex .f32 V.g V.h], .int .i64 q]) (by simp [results, Try.results27, go_sem, k0, k1, k2, k3]) rfl ?_
      exact ⟨rfl, below_set4 B3.out (Nat.le_refl _) _ _ _ _⟩
end Go.Proofs.Ytkfahacnanlnfaa
namespace Go.Proofs.Ytkfahacnanlnfaa
open Go.RowKit Ieee

/-- What lies there while two rows are compared. -/
def Two2 (w : World) (a b : Value) (w' : World) : Prop := Row2 w' w.heap.size a b ∧ Row2 w' (w.heap.size + 1) a b ∧ Below w.heap.size w w'
theorem Two2.drewN {w w1 : World} {a b : Value} (h : Two2 w a b w1) (n : Nat) : Two2 w a b (w1.drewN n) :=
  ⟨h.1, h.2.1, h.2.2.trans ⟨rfl, rfl, rfl, Nat.le_refl _, fun _ _ => rfl⟩⟩
theorem two2_start (w : World) (a b : Value) : Two2 w a b ((w.alloc (.cells #[a, b] 49)).alloc (.cells #[a, b] 49)) := by
  have Y := row2_new (w.alloc (.cells #[a, b] 49)) a b 49
  simp only [World.size_alloc] at Y
  exact ⟨(row2_new w a b 49).alloc _, Y, ((Below.refl _ _).alloc (Nat.le_refl _) _).alloc (by simp) _⟩
set_option maxHeartbeats 1000000 in
theorem eqC2_any (p0 p1 p2 p3 : Nat) (w : World) (f0 : fin32 p0 = true) (f1 : fin32 p1 = true) (f2 : fin32 p2 = true) (f3 : fin32 p3 = true) :
    Calls Try.prog 62 #[.agg #[.complex .f32 p0 p1, .complex .f32 p2 p3], .agg #[.complex .f32 p0 p1, .complex .f32 p2 p3]] w fun e w' => e = .returned (.bool true) ∧ Below w.heap.size w w' := by
  have T0 := Lib.hid (two2_start w (.complex .f32 p0 p1) (.complex .f32 p2 p3))
  have h0 := wide_cplx f0 f1
  have h1 := wide_cplx f2 f3
  have G0 := Lib.hid (And.intro (fin_wide f0) (fin_wide f1))
  have G1 := Lib.hid (And.intro (fin_wide f2) (fin_wide f3))
  clear f0 f1 f2 f3
  generalize wide p0 = q0 at *
  generalize wide p1 = q1 at *
  generalize wide p2 = q2 at *
  generalize wide p3 = q3 at *
  go_enter Try.func62, Try.ntmps62
  go_wp2
  go_loopw [5] (fun i wr => ∃ k : Nat, k ≤ 2 ∧ i = .int .i64 k ∧ Two2 w (.complex .f32 p0 p1) (.complex .f32 p2 p3) wr) (fun i _ => 2 - (intOf i).toNat)
  case atStart => exact ⟨0, by omega, rfl, T0.out⟩
  case round =>
    obtain ⟨k, hk, rfl, ht⟩ := hrel
    clear T0
    obtain ⟨c0, c1⟩ := ht.1.cells
    obtain ⟨d0, d1⟩ := ht.2.1.cells
    have TT := Lib.hid ht; clear ht
    rcases (by omega : k = 0 ∨ k = 1 ∨ k = 2) with rfl | rfl | rfl
    · go_wp2
      go_quiet ((go_at_call 46; exact Calls.quiet_of_same ((sameComplex_any q0 q1 _ G0.out.1 G0.out.2).mono fun _ _ h => ⟨h.1, h.2.symm⟩)))
      go_wp2
      exact ⟨⟨1, by omega, by rfl, TT.out.drewN _⟩, by decide⟩
    · go_wp2
      go_quiet ((go_at_call 46; exact Calls.quiet_of_same ((sameComplex_any q2 q3 _ G1.out.1 G1.out.2).mono fun _ _ h => ⟨h.1, h.2.symm⟩)))
      go_wp2
      exact ⟨⟨2, by omega, by rfl, TT.out.drewN _⟩, by decide⟩
    · go_wp2
      go_ret
      exact ⟨rfl, TT.out.2.2⟩
theorem two4_start' (w : World) (a b c d : Value) : Two4 w a b c d ((w.alloc (.cells #[a, b, c, d] 51)).alloc (.cells #[a, b, c, d] 51)) := by
  have Y := row4_new (w.alloc (.cells #[a, b, c, d] 51)) a b c d 51
  simp only [World.size_alloc] at Y
  exact ⟨(row4_new w a b c d 51).alloc _, Y, ((Below.refl _ _).alloc (Nat.le_refl _) _).alloc (by simp) _⟩
theorem Two4.below {w w1 w2 : World} {a b c d : Value} (h : Two4 w a b c d w1) (hb : Below w1.heap.size w1 w2) : Two4 w a b c d w2 :=
  ⟨h.1.below hb h.1.lt, h.2.1.below hb h.2.1.lt, h.2.2.trans (hb.mono h.2.2.size)⟩
theorem Two4.drew {w w1 : World} {a b c d : Value} (h : Two4 w a b c d w1) : Two4 w a b c d w1.drew := h.drewN 1
set_option maxHeartbeats 1000000 in
theorem eqTurn_any (t : T8) (w : World) (f0 : fin32 t.a = true) (f1 : fin32 t.b = true) (f2 : fin32 t.c = true) (f3 : fin32 t.d = true) (f4 : fin32 t.e = true) (f5 : fin32 t.f = true) (f6 : fin32 t.g = true) (f7 : fin32 t.h = true) :
    Calls Try.prog 28 #[.agg #[.complex .f32 t.a t.b, .complex .f32 t.c t.d, .complex .f32 t.e t.f, .complex .f32 t.g t.h], .agg #[.complex .f32 t.a t.b, .complex .f32 t.c t.d, .complex .f32 t.e t.f, .complex .f32 t.g t.h]] w fun e w' => e = .returned (.bool true) ∧ Below w.heap.size w w' := by
  have K0 := Lib.hid (fun w => eqC2_any t.a t.b t.c t.d w f0 f1 f2 f3)
  have K1 := Lib.hid (fun w => eqC2_any t.e t.f t.g t.h w f4 f5 f6 f7)
  clear f0 f1 f2 f3 f4 f5 f6 f7
  obtain ⟨a, b, c, d, e0, f, g, h⟩ := t
  dsimp only at *
  have T0 := Lib.hid (two4_start' w (.complex .f32 a b) (.complex .f32 c d) (.complex .f32 e0 f) (.complex .f32 g h))
  go_enter Try.func28, Try.ntmps28
  go_wp2
  go_loopw [5] (fun i wr => ∃ k : Nat, k ≤ 2 ∧ i = .int .i64 k ∧ Two4 w (.complex .f32 a b) (.complex .f32 c d) (.complex .f32 e0 f) (.complex .f32 g h) wr) (fun i _ => 2 - (intOf i).toNat)
  case atStart => exact ⟨0, by omega, rfl, T0.out⟩
  case round =>
    obtain ⟨k, hk, rfl, ht⟩ := hrel
    clear T0
    obtain ⟨c0, c1, c2, c3⟩ := ht.1.cells
    obtain ⟨d0, d1, d2, d3⟩ := ht.2.1.cells
    have TT := Lib.hid ht; clear ht
    rcases (by omega : k = 0 ∨ k = 1 ∨ k = 2) with rfl | rfl | rfl
    · go_wp2_with fail
      go_region_held3 (fun w' => w'.cell? ⟨w.heap.size, 0, none⟩ = some (.complex .f32 a b) ∧ w'.cell? ⟨w.heap.size, 1, none⟩ = some (.complex .f32 c d) ∧ w'.cell? ⟨w.heap.size + 1, 0, none⟩ = some (.complex .f32 a b) ∧ w'.cell? ⟨w.heap.size + 1, 1, none⟩ = some (.complex .f32 c d)) (go_keep)
        ((go_at_call 62; refine (K0.out _).mono ?_; rintro e' w4 ⟨rfl, b4⟩; have TT4 := Lib.hid (TT.out.drew.below b4); clear b4; obtain ⟨x0, x1, x2, x3⟩ := TT4.out.1.cells; obtain ⟨y0, y1, y2, y3⟩ := TT4.out.2.1.cells))
      all_goals
        go_wp2
        exact ⟨⟨1, by omega, by rfl, TT4.out⟩, by decide⟩
    · go_wp2_with fail
      go_region_held3 (fun w' => w'.cell? ⟨w.heap.size, 2, none⟩ = some (.complex .f32 e0 f) ∧ w'.cell? ⟨w.heap.size, 3, none⟩ = some (.complex .f32 g h) ∧ w'.cell? ⟨w.heap.size + 1, 2, none⟩ = some (.complex .f32 e0 f) ∧ w'.cell? ⟨w.heap.size + 1, 3, none⟩ = some (.complex .f32 g h)) (go_keep)
        ((go_at_call 62; refine (K1.out _).mono ?_; rintro e' w4 ⟨rfl, b4⟩; have TT4 := Lib.hid (TT.out.drew.below b4); clear b4; obtain ⟨x0, x1, x2, x3⟩ := TT4.out.1.cells; obtain ⟨y0, y1, y2, y3⟩ := TT4.out.2.1.cells))
      all_goals
        go_wp2
        exact ⟨⟨2, by omega, by rfl, TT4.out⟩, by decide⟩
    · go_wp2
      go_ret
      exact ⟨rfl, TT.out.2.2⟩
end Go.Proofs.Ytkfahacnanlnfaa
namespace Go.Proofs.Ytkfahacnanlnfaa
open Go.RowKit Ieee

def finT (t : T8) : Prop := fin32 t.a = true ∧ fin32 t.b = true ∧ fin32 t.c = true ∧ fin32 t.d = true ∧ fin32 t.e = true ∧ fin32 t.f = true ∧ fin32 t.g = true ∧ fin32 t.h = true
theorem limT.finCz {K : Int} {t : T8} (h : limT K t) : finT (czT t) :=
  ⟨(lim_cz h.1.1).fin, (lim_cz h.1.2).fin, (lim_cz h.2.1.1).fin, (lim_cz h.2.1.2).fin, (lim_cz h.2.2.1.1).fin, (lim_cz h.2.2.1.2).fin, (lim_cz h.2.2.2.1).fin, (lim_cz h.2.2.2.2).fin⟩
theorem rt_fin (m : Int) (xs : List Pl.Pu) : finT (czT (rtV m xs)) := by
  unfold rtV
  cases hs : Pl.isSeq xs with
  | false => exact (limT_zero (K := 0)).finCz
  | true =>
    rw [if_pos rfl]
    split
    · exact (limT_zero (K := 0)).finCz
    · unfold tblV
      cases h : tbl m xs xs.length with
      | none => exact (limT_zero (K := 0)).finCz
      | some t => exact (tbl_lim hs _ t (Nat.le_refl _) h).finCz
theorem Own_rd2 {w : World} {base : Nat} {v : Value} {xs : List Pl.Pu} (h : Pl.Own w base v xs) : ∃ A c, v = .slice A xs.length c ∧ Pl.Rd w A xs ∧ ∀ b off, A = some ⟨b, off, none⟩ → b < w.heap.size := by
  rcases h with ⟨rfl, rfl⟩ | ⟨G, cap, more, rfl, hG, hr, h1, h2, h3⟩
  · exact ⟨none, 0, rfl, fun k p h => by simp at h, fun b off e => by cases e⟩
  · exact ⟨_, cap, rfl, fun k p hk => ⟨G, 0, rfl, hr.lt, by simpa using hr.cells hk⟩, fun b off e => by cases e; exact hr.lt⟩
set_option maxHeartbeats 1000000 in
theorem renewed_walk (A : Option Addr) (c : Nat) (xs : List Pl.Pu) (m : Int) (w : World) (hm : xs.length ≤ maxLen) (hm2 : m ≤ 9223372036854775807) (hr : Pl.Rd w A xs) :
    Calls Try.prog 7 #[.slice A xs.length c, .int .i64 m] w fun e w' => e = .returned (.bool true) ∧ Below w.heap.size w w' := by
  unfold maxLen at hm
  by_cases hn : xs.length ≤ 1048576
  · have HR := Lib.hid hr; clear hr
    have HF := Lib.hid (rt_fin m xs)
    have KS := Lib.hid (fun A c w hr => specRenewed_any A c xs m w hn hr)
    have KI := Lib.hid (fun A c w hr hA => implRenewed_any A c xs m w hn hm2 hr hA)
    unfold MadeT2 T8.val quad at KS KI
    generalize czT (rtV m xs) = V at *
    generalize rtC m xs = q at *
    have KE := Lib.hid (fun w => eqTurn_any V w HF.out.1 HF.out.2.1 HF.out.2.2.1 HF.out.2.2.2.1 HF.out.2.2.2.2.1 HF.out.2.2.2.2.2.1 HF.out.2.2.2.2.2.2.1 HF.out.2.2.2.2.2.2.2)
    clear hm2 HF
    go_enter Try.func7, Try.ntmps7
    go_wp2_with (go_at_call 24; refine (Pl.szPulseS_any _ _ _ _ hn).mono ?_; rintro e w' ⟨rfl, rfl⟩)
    refine (Pl.toPulseS_any _ _ _ _ hn HR.out).mono ?_
    rintro e w1 ⟨v1, rfl, o1, b1⟩
    obtain ⟨A1, c1, rfl, r1⟩ := o1.rd
    have R1 := Lib.hid r1; clear r1 o1
    go_wp2_with fail
    refine (KS.out _ _ _ R1.out).mono ?_
    rintro e w2 ⟨rfl, b2⟩
    have B2 : Below w.heap.size w w2 := b1.trans (b2.mono b1.size)
    have X2 := Lib.hid (row4_new w2 (.complex .f32 V.a V.b) (.complex .f32 V.c V.d) (.complex .f32 V.e V.f) (.complex .f32 V.g V.h) 51)
    have B3 := Lib.hid (B2.alloc B2.size (.cells #[.complex .f32 V.a V.b, .complex .f32 V.c V.d, .complex .f32 V.e V.f, .complex .f32 V.g V.h] 51))
    clear b1 b2 B2
    go_wp2_with fail
    refine (Pl.toPulseS_any _ _ _ _ hn (HR.out.below B3.out)).mono ?_
    rintro e w4 ⟨v4, rfl, o4, b4⟩
    have X4 := Lib.hid (X2.out.below b4 X2.out.lt)
    have B4 := Lib.hid (B3.out.trans (b4.mono B3.out.size))
    clear b4
    obtain ⟨A4, c4, rfl, r4, h4⟩ := Own_rd2 o4
    have R4 := Lib.hid r4; clear r4 o4
    have H4 := Lib.hid h4; clear h4
    go_wp2_with fail
    refine (KI.out _ _ _ R4.out H4.out).mono ?_
    rintro e w5 ⟨rfl, b5⟩
    have X5 := Lib.hid (X4.out.below b5 X4.out.lt)
    have R5 := Lib.hid (R4.out.below b5)
    have B5 := Lib.hid (B4.out.trans (b5.mono B4.out.size))
    clear b5
    obtain ⟨x0, x1, x2, x3⟩ := X5.out.cells
    have lt := X5.out.lt
    have B6 := Lib.hid (B5.out.alloc B5.out.size (.cells #[.complex .f32 V.a V.b, .complex .f32 V.c V.d, .complex .f32 V.e V.f, .complex .f32 V.g V.h] 51))
    have R6 := Lib.hid (R5.out.below ((Below.refl _ _).alloc (Nat.le_refl _) (.cells #[.complex .f32 V.a V.b, .complex .f32 V.c V.d, .complex .f32 V.e V.f, .complex .f32 V.g V.h] 51)))
    go_wp2_with fail
    refine (KE.out _).mono ?_
    rintro e w7 ⟨rfl, b7⟩
    have R7 := Lib.hid (R6.out.below b7)
    have B7 := Lib.hid (B6.out.trans (b7.mono B6.out.size))
    clear b7
    go_wp2_with fail
    refine (Pl.toPulseS_any _ _ _ _ hn (HR.out.below B7.out)).mono ?_
    rintro e w8 ⟨v8, rfl, o8, b8⟩
    obtain ⟨A8, c8, rfl, r8⟩ := o8.rd
    have R8 := Lib.hid r8; clear r8 o8
    have R78 := Lib.hid (R7.out.below b8)
    have B8 := Lib.hid (B7.out.trans (b8.mono B7.out.size))
    clear b8
    go_wp2_with fail
    refine (Pl.eqPulseS_any _ _ _ _ _ _ _ rfl hn R78.out R8.out).mono ?_
    rintro e w9 ⟨rfl, b9⟩
    rw [decide_eq_true (rfl : xs = xs)]
    have B9 := Lib.hid (B8.out.trans (b9.mono B8.out.size))
    clear b9
    go_wp2
    go_ret
    exact ⟨rfl, B9.out⟩
  · go_enter Try.func7, Try.ntmps7
    go_wp2_with (go_at_call 24; refine (Pl.szPulseS_big _ _ _ _ (by omega) hm).mono ?_; rintro e w' ⟨rfl, rfl⟩)
    go_ret
    exact ⟨rfl, Below.refl _ _⟩
end Go.Proofs.Ytkfahacnanlnfaa
