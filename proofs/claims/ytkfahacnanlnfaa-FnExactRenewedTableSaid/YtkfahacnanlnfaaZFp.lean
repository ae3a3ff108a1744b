/- Walks: what is told of a table. -/
/- Walks: the program's renewed table, to the end. -/
import Derived.Test.YtkfahacnanlnfaaZEo
import Derived.Test.YtkfahacnanlnfaaZFn
namespace Go.Proofs.Ytkfahacnanlnfaa
open Go.RowKit Ieee
attribute [local go_sem ↓] Go.wp_at_zero Go.wp_at_succ

theorem toldT_yes (B : Nat) (t : T8) (w : World) (h : CalcAt w B 0) : Calls Try.prog 60 #[.pointer (some ⟨B, 0, none⟩), .agg #[.complex .f32 t.a t.b, .complex .f32 t.c t.d, .complex .f32 t.e t.f, .complex .f32 t.g t.h]] w
    fun e w' => e = .returned (.tuple #[.agg #[.complex .f32 t.a t.b, .complex .f32 t.c t.d, .complex .f32 t.e t.f, .complex .f32 t.g t.h], .int .i64 0]) ∧ Below w.heap.size w w' := by
  have b0 : Below w.heap.size w ((w.alloc (.cells #[.complex .f32 t.a t.b, .complex .f32 t.c t.d, .complex .f32 t.e t.f, .complex .f32 t.g t.h] 51)).alloc (.cells #[.complex .f32 0 0, .complex .f32 0 0, .complex .f32 0 0, .complex .f32 0 0] 51)) := ((Below.refl _ _).alloc (Nat.le_refl _) _).alloc (by simp) _
  have hc := (h.below b0 h.lt).cell
  clear b0 h
  go_enter Try.func60, Try.ntmps60
  go_wp2_with fail
  refine bodyPost_ret (v := .tuple #[.agg #[.complex .f32 t.a t.b, .complex .f32 t.c t.d, .complex .f32 t.e t.f, .complex .f32 t.g t.h], .int .i64 0]) (by simp [results, Try.results60, go_sem]) rfl ?_
  exact ⟨rfl, ((Below.refl _ _).alloc (Nat.le_refl _) _).alloc (by simp) _⟩
theorem toldT_no (B : Nat) (q : Int) (t : T8) (w : World) (h : CalcAt w B q) (hq : q ≠ 0) : Calls Try.prog 60 #[.pointer (some ⟨B, 0, none⟩), .agg #[.complex .f32 t.a t.b, .complex .f32 t.c t.d, .complex .f32 t.e t.f, .complex .f32 t.g t.h]] w
    fun e w' => e = .returned (.tuple #[.agg #[.complex .f32 0 0, .complex .f32 0 0, .complex .f32 0 0, .complex .f32 0 0], .int .i64 q]) ∧ Below w.heap.size w w' := by
  have b0 : Below w.heap.size w ((w.alloc (.cells #[.complex .f32 t.a t.b, .complex .f32 t.c t.d, .complex .f32 t.e t.f, .complex .f32 t.g t.h] 51)).alloc (.cells #[.complex .f32 0 0, .complex .f32 0 0, .complex .f32 0 0, .complex .f32 0 0] 51)) := ((Below.refl _ _).alloc (Nat.le_refl _) _).alloc (by simp) _
  have b1 := b0.alloc b0.size (.cells #[.complex .f32 0 0, .complex .f32 0 0, .complex .f32 0 0, .complex .f32 0 0] 51)
  have hc := (h.below b0 h.lt).cell
  have hc1 := (h.below b1 h.lt).cell
  have hb : (q != 0) = true := by simpa using hq
  have Y := row4_new ((w.alloc (.cells #[.complex .f32 t.a t.b, .complex .f32 t.c t.d, .complex .f32 t.e t.f, .complex .f32 t.g t.h] 51)).alloc (.cells #[.complex .f32 0 0, .complex .f32 0 0, .complex .f32 0 0, .complex .f32 0 0] 51)) (.complex .f32 0 0) (.complex .f32 0 0) (.complex .f32 0 0) (.complex .f32 0 0) 51
  have X := (row4_new (w.alloc (.cells #[.complex .f32 t.a t.b, .complex .f32 t.c t.d, .complex .f32 t.e t.f, .complex .f32 t.g t.h] 51)) (.complex .f32 0 0) (.complex .f32 0 0) (.complex .f32 0 0) (.complex .f32 0 0) 51).alloc (.cells #[.complex .f32 0 0, .complex .f32 0 0, .complex .f32 0 0, .complex .f32 0 0] 51)
  simp only [World.size_alloc] at X Y
  have X0 := Lib.hid X
  have B1 := Lib.hid b1
  obtain ⟨x0, x1, x2, x3⟩ := X.cells
  obtain ⟨y0, y1, y2, y3⟩ := Y.cells
  have g0 := X.frozen 0
  have g1 := X.frozen 1
  have g2 := X.frozen 2
  have g3 := X.frozen 3
  have hBl := h.lt
  have n1 : B ≠ w.heap.size + 1 := by omega
  have n2 : w.heap.size + 1 ≠ B := by omega
  clear X Y b0 b1 h
  go_enter Try.func60, Try.ntmps60
  go_wp2_with fail
  generalize ((w.alloc (.cells #[.complex .f32 t.a t.b, .complex .f32 t.c t.d, .complex .f32 t.e t.f, .complex .f32 t.g t.h] 51)).alloc (.cells #[.complex .f32 0 0, .complex .f32 0 0, .complex .f32 0 0, .complex .f32 0 0] 51)).alloc (.cells #[.complex .f32 0 0, .complex .f32 0 0, .complex .f32 0 0, .complex .f32 0 0] 51) = w3 at X0 B1 hc1 x0 x1 x2 x3 y0 y1 y2 y3 g0 g1 g2 g3 ⊢
  go_region_held3 (fun w' => w'.cell? ⟨B, 0, none⟩ = some (.int .i64 q) ∧ w'.cell? ⟨w.heap.size + 1 + 1, 0, none⟩ = some (.complex .f32 0 0) ∧ w'.cell? ⟨w.heap.size + 1 + 1, 1, none⟩ = some (.complex .f32 0 0) ∧ w'.cell? ⟨w.heap.size + 1 + 1, 2, none⟩ = some (.complex .f32 0 0) ∧ w'.cell? ⟨w.heap.size + 1 + 1, 3, none⟩ = some (.complex .f32 0 0)) (go_keep) (fail)
  all_goals
    obtain ⟨k0, k1, k2, k3⟩ := (X0.out.put (.complex .f32 0 0) (.complex .f32 0 0) (.complex .f32 0 0) (.complex .f32 0 0)).drew.cells
    clear x0 x1 x2 x3 y0 y1 y2 y3
    go_wp2
    refine bodyPost_ret (v := .tuple #[.agg #[.complex .f32 0 0, .complex .f32 0 0, .complex .f32 0 0, .complex .f32 0 0], .int .i64 q]) (by simp [results, Try.results60, go_sem, k0, k1, k2, k3]) rfl ?_
    exact ⟨rfl, (below_set4 B1.out (by omega) _ _ _ _).drew⟩
end Go.Proofs.Ytkfahacnanlnfaa
namespace Go.Proofs.Ytkfahacnanlnfaa
open Go.RowKit Ieee
attribute [local go_sem ↓] Go.wp_at_zero Go.wp_at_succ

theorem czT_zero : czT zeroT = zeroT := by
  have h : cz 0 = 0 := by decide +kernel
  unfold czT zeroT
  dsimp only
  rw [h]
theorem toldT_both (m : Int) (xs : List Pl.Pu) (B : Nat) (u V : T8) (q : Int) (hu : iT m xs xs.length = u) (hV : czT (tblV m xs) = V) (hq : tblC m xs = q) (w : World) (h : CalcAt w B (iC m xs xs.length)) : Calls Try.prog 60 #[.pointer (some ⟨B, 0, none⟩), .agg #[.complex .f32 u.a u.b, .complex .f32 u.c u.d, .complex .f32 u.e u.f, .complex .f32 u.g u.h]] w
    fun e w' => e = .returned (.tuple #[.agg #[.complex .f32 V.a V.b, .complex .f32 V.c V.d, .complex .f32 V.e V.f, .complex .f32 V.g V.h], .int .i64 q]) ∧ Below w.heap.size w w' := by
  subst hu hV hq
  unfold iT tblV tblC
  unfold iC at h
  cases ht : tbl m xs xs.length with
  | none =>
    rw [ht] at h
    exact toldT_no B 5 zeroT w h (by decide)
  | some t =>
    rw [ht] at h
    exact toldT_yes B (czT t) w h
set_option maxHeartbeats 1000000 in
theorem implRenewed_any (A : Option Addr) (c : Nat) (xs : List Pl.Pu) (m : Int) (w : World) (hn : xs.length ≤ 1048576) (hm2 : m ≤ 9223372036854775807) (hr : Pl.Rd w A xs) (hA : ∀ b off, A = some ⟨b, off, none⟩ → b < w.heap.size) :
    Calls Try.prog 27 #[.slice A xs.length c, .int .i64 m] w (MadeT2 (czT (rtV m xs)) (rtC m xs) w) := by
  have HR := Lib.hid hr; clear hr
  have HA := Lib.hid hA; clear hA
  have X0 := Lib.hid (row4_new w (.complex .f32 0 0) (.complex .f32 0 0) (.complex .f32 0 0) (.complex .f32 0 0) 51)
  have b0 : Below w.heap.size w (w.alloc (.cells #[.complex .f32 0 0, .complex .f32 0 0, .complex .f32 0 0, .complex .f32 0 0] 51)) := (Below.refl w.heap.size w).alloc (Nat.le_refl _) _
  have R0 := Lib.hid (HR.out.below b0)
  have B0 := Lib.hid b0; clear b0
  unfold rtV rtC
  cases hs : Pl.isSeq xs with
  | false =>
    simp only [Bool.false_eq_true, if_false]
    rw [czT_zero]
    unfold MadeT2 T8.val quad zeroT
    go_enter Try.func27, Try.ntmps27
    go_wp2_with (go_at_call 59; refine (Pl.implIsSequence_any _ _ _ _ hn R0.out).mono ?_; rintro e w1 ⟨rfl, b1⟩; rw [hs]; have X1 := Lib.hid (X0.out.below b1 X0.out.lt); have B1 := Lib.hid (B0.out.trans (b1.mono B0.out.size)); clear b1; obtain ⟨c0, c1, c2, c3⟩ := X1.out.cells; have g0 := X1.out.frozen 0; have g1 := X1.out.frozen 1; have g2 := X1.out.frozen 2; have g3 := X1.out.frozen 3)
    obtain ⟨k0, k1, k2, k3⟩ := (X1.out.put (.complex .f32 0 0) (.complex .f32 0 0) (.complex .f32 0 0) (.complex .f32 0 0)).cells
    refine bodyPost_ret (v := .tuple #[.agg #[.complex .f32 0 0, .complex .f32 0 0, .complex .f32 0 0, .complex .f32 0 0], .int .i64 1]) (by simp [results, Try.results27, go_sem, k0, k1, k2, k3]) rfl ?_
    exact ⟨rfl, below_set4 B1.out (Nat.le_refl _) _ _ _ _⟩
  | true =>
    simp only [if_true]
    by_cases hm : m < 1
    · rw [if_pos hm, if_pos hm]
      rw [czT_zero]
      unfold MadeT2 T8.val quad zeroT
      go_enter Try.func27, Try.ntmps27
      go_wp2_with (go_at_call 59; refine (Pl.implIsSequence_any _ _ _ _ hn R0.out).mono ?_; rintro e w1 ⟨rfl, b1⟩; rw [hs]; have X1 := Lib.hid (X0.out.below b1 X0.out.lt); have B1 := Lib.hid (B0.out.trans (b1.mono B0.out.size)); clear b1; obtain ⟨c0, c1, c2, c3⟩ := X1.out.cells; have g0 := X1.out.frozen 0; have g1 := X1.out.frozen 1; have g2 := X1.out.frozen 2; have g3 := X1.out.frozen 3)
      obtain ⟨k0, k1, k2, k3⟩ := (X1.out.put (.complex .f32 0 0) (.complex .f32 0 0) (.complex .f32 0 0) (.complex .f32 0 0)).cells
      refine bodyPost_ret (v := .tuple #[.agg #[.complex .f32 0 0, .complex .f32 0 0, .complex .f32 0 0, .complex .f32 0 0], .int .i64 2]) (by simp [results, Try.results27, go_sem, k0, k1, k2, k3]) rfl ?_
      exact ⟨rfl, below_set4 B1.out (Nat.le_refl _) _ _ _ _⟩
    · rw [if_neg hm, if_neg hm]
      obtain ⟨V, hV⟩ : ∃ V, czT (tblV m xs) = V := ⟨_, rfl⟩
      obtain ⟨q, hq⟩ : ∃ q, tblC m xs = q := ⟨_, rfl⟩
      obtain ⟨u, hu⟩ : ∃ u, iT m xs xs.length = u := ⟨_, rfl⟩
      have KT := Lib.hid (fun B w hw => toldT_both m xs B u V q hu hV hq w hw)
      have KS := Lib.hid (fun B w hw hr hA => tables_any B A c xs m w hw hs hr hA (by omega) hm2)
      have HU := Lib.hid hu
      rw [hV, hq]
      clear hV hq hu
      have hlen : (xs.length : Int) < (xs.length : Int) + 1 := by omega
      have hl0 : (0 : Int) ≤ (xs.length : Int) := by omega
      unfold MadeT2 T8.val quad
      go_enter Try.func27, Try.ntmps27
      go_wp2_with (go_at_call 59; refine (Pl.implIsSequence_any _ _ _ _ hn R0.out).mono ?_; rintro e w1 ⟨rfl, b1⟩; rw [hs]; have X1 := Lib.hid (X0.out.below b1 X0.out.lt); have B1 := Lib.hid (B0.out.trans (b1.mono B0.out.size)); have R1 := Lib.hid (R0.out.below b1); clear b1)
      refine (KS.out w1.heap.size _ (calc_new' w1) (R1.out.below ((Below.refl _ _).alloc (Nat.le_refl _) _)) (fun b off e => by have := HA.out b off e; have := B1.out.size; omega)).mono ?_
      rintro e w2 ⟨v, rfl, hT⟩
      have X2 := Lib.hid ((X1.out.alloc (.cells #[.int .i64 0] 67)).keep (hT.hg.block w.heap.size (by have := X1.out.lt; simp; omega) (fun e => by have := Option.some.inj e; have := X1.out.lt; omega)))
      have B2 := Lib.hid (show Below w.heap.size w w2 from (B1.out.alloc B1.out.size (.cells #[.int .i64 0] 67)).grown hT.hg (by have := B1.out.size; simp; omega) (fun g e => by cases e; exact B1.out.size))
      obtain ⟨g, cap, rfl, hg, hgl, hcap, v0, v1, v2, v3⟩ := own_tab hT.own (show xs.length < xs.length + 1 by omega)
      rw [HU.out] at v0 v1 v2 v3
      have T2 := Lib.hid hT.hc
      clear hT
      go_wp2_with fail
      refine (KT.out _ _ T2.out).mono ?_
      rintro e w3 ⟨rfl, b3⟩
      have X3 := Lib.hid (X2.out.below b3 X2.out.lt)
      have B3 := Lib.hid (B2.out.trans (b3.mono B2.out.size))
      clear b3 v0 v1 v2 v3
      have g0 := X3.out.frozen 0
      have g1 := X3.out.frozen 1
      have g2 := X3.out.frozen 2
      have g3 := X3.out.frozen 3
      obtain ⟨c0, c1, c2, c3⟩ := X3.out.cells
      go_wp2
      obtain ⟨k0, k1, k2, k3⟩ := (X3.out.put (.complex .f32 V.a V.b) (.complex .f32 V.c V.d) (.complex .f32 V.e V.f) (.complex .f32 V.g V.h)).cells
      refine bodyPost_ret (v := .tuple #[.agg #[.complex .f32 V.a V.b, .complex .f32 V.c V.d, .complex .f32 V.e V.f, .complex .f32 V.g V.h], .int .i64 q]) (by simp [results, Try.results27, go_sem, k0, k1, k2, k3]) rfl ?_
      exact ⟨rfl, below_set4 B3.out (Nat.le_refl _) _ _ _ _⟩
end Go.Proofs.Ytkfahacnanlnfaa
