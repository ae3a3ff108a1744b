/- Walks: the reference's renewed table, to the end. -/
/- Walks: the reference's renewed table, to the end. -/
import Derived.Test.YtkfahacnanlnfaaZBb
import Derived.Test.YtkfahacnanlnfaaZEm
namespace Go.Proofs.Ytkfahacnanlnfaa
open Go.RowKit Ieee
attribute [local go_sem ↓] Go.wp_at_zero Go.wp_at_succ

/-- Block B is two values. -/
def Row2 (w : World) (B : Nat) (a b : Value) : Prop := ∃ t, w.heap[B]? = some (.cells #[a, b] t (0, 0))
section
variable {w w' : World} {B : Nat} {a b : Value}
theorem Row2.lt (h : Row2 w B a b) : B < w.heap.size := by
  obtain ⟨t, h⟩ := h; exact (Array.getElem?_eq_some_iff.1 h).1
theorem Row2.cells (h : Row2 w B a b) : w.cell? ⟨B, 0, none⟩ = some a ∧ w.cell? ⟨B, 1, none⟩ = some b := by
  obtain ⟨t, h⟩ := h; simp [World.cell?, h]
theorem Row2.frozen (h : Row2 w B a b) (i : Nat) : w.frozen? ⟨B, i, none⟩ = false := by
  obtain ⟨t, h⟩ := h; simp [World.frozen?, h]
theorem Row2.keep (h : Row2 w B a b) (hb : w'.heap[B]? = w.heap[B]?) : Row2 w' B a b := by
  obtain ⟨t, h⟩ := h; exact ⟨t, hb.trans h⟩
theorem Row2.alloc (h : Row2 w B a b) (o : Obj) : Row2 (w.alloc o) B a b := h.keep (Below.heap_alloc _ _ _ h.lt)
theorem Row2.put (h : Row2 w B a b) (a' b' : Value) : Row2 ((w.setCell ⟨B, 0, none⟩ a').setCell ⟨B, 1, none⟩ b') B a' b' := by
  obtain ⟨t, h⟩ := h; exact ⟨t, by simp [World.setCell, Array.getElem?_modify, h]⟩
theorem Row2.drew (h : Row2 w B a b) : Row2 w.drew B a b := h
end
theorem row2_new (w : World) (a b : Value) (t : TypeId) : Row2 (w.alloc (.cells #[a, b] t)) w.heap.size a b := ⟨t, heap_alloc_new w _⟩
theorem below_set2 {K : Nat} {w w' : World} {B : Nat} (h : Below K w w') (hB : K ≤ B) (u0 u1 : Value) : Below K w ((w'.setCell ⟨B, 0, none⟩ u0).setCell ⟨B, 1, none⟩ u1) :=
  (h.setCell hB _).setCell hB _
theorem l00Spinor_any (a b c d : Nat) (w : World) : Calls Try.prog 86 #[.agg #[.complex .f32 a b, .complex .f32 c d]] w fun e' w' => e' = .returned (.agg #[.complex .f32 (cz a) (cz b), .complex .f32 (cz c) (cz d)]) ∧ Below w.heap.size w w' := by
  have Y := (row2_new w (.complex .f32 a b) (.complex .f32 c d) 101).alloc (.cells #[.complex .f32 0 0, .complex .f32 0 0] 101)
  have X := row2_new (w.alloc (.cells #[.complex .f32 a b, .complex .f32 c d] 101)) (.complex .f32 0 0) (.complex .f32 0 0) 101
  simp only [World.size_alloc] at X
  have b0 : Below w.heap.size w ((w.alloc (.cells #[.complex .f32 a b, .complex .f32 c d] 101)).alloc (.cells #[.complex .f32 0 0, .complex .f32 0 0] 101)) := ((Below.refl _ _).alloc (Nat.le_refl _) _).alloc (by simp) _
  have X0 := Lib.hid X
  have B0 := Lib.hid b0
  have Y0 := Lib.hid Y
  obtain ⟨c0, c1⟩ := Y.cells
  have g0 := X.frozen 0
  have g1 := X.frozen 1
  obtain ⟨d0, d1⟩ := X.cells
  clear X Y b0
  obtain ⟨w0, hw0⟩ : ∃ w0, (w.alloc (.cells #[.complex .f32 a b, .complex .f32 c d] 101)).alloc (.cells #[.complex .f32 0 0, .complex .f32 0 0] 101) = w0 := ⟨_, rfl⟩
  rw [hw0] at X0 B0 Y0 c0 c1 g0 g1 d0 d1
  go_enter Try.func86, Try.ntmps86
  go_wp2_with fail
  clear hw0
  go_region_held3 (fun w' => w'.cell? ⟨w.heap.size, 0, none⟩ = some (.complex .f32 a b) ∧ w'.cell? ⟨w.heap.size, 1, none⟩ = some (.complex .f32 c d)) (go_keep) ((go_at_call 76; refine (l00Complex_any _ _ _).mono ?_; rintro e' w' ⟨rfl, rfl⟩))
  all_goals
    obtain ⟨k0, k1⟩ := (X0.out.put (.complex .f32 (cz a) (cz b)) (.complex .f32 (cz c) (cz d))).drew.cells
    clear d0 d1
    go_wp2
    refine bodyPost_ret (v := .agg #[.complex .f32 (cz a) (cz b), .complex .f32 (cz c) (cz d)]) (by simp [results, Try.results86, go_sem, k0, k1]) rfl ?_
    exact ⟨rfl, (below_set2 B0.out (Nat.le_succ _) _ _).drew⟩
def czT (t : T8) : T8 := ⟨cz t.a, cz t.b, cz t.c, cz t.d, cz t.e, cz t.f, cz t.g, cz t.h⟩
set_option maxHeartbeats 1000000 in
theorem l00Turn_any (t : T8) (w : World) : Calls Try.prog 57 #[t.val] w (MadeT (czT t) w) := by
  obtain ⟨a, b, c, d, e, f, g, k⟩ := t
  have KS := Lib.hid (fun w => l00Spinor_any a b c d w)
  have KS' := Lib.hid (fun w => l00Spinor_any e f g k w)
  have Y := (row4_new w (.complex .f32 a b) (.complex .f32 c d) (.complex .f32 e f) (.complex .f32 g k) 51).alloc (.cells #[.complex .f32 0 0, .complex .f32 0 0, .complex .f32 0 0, .complex .f32 0 0] 51)
  have X := row4_new (w.alloc (.cells #[.complex .f32 a b, .complex .f32 c d, .complex .f32 e f, .complex .f32 g k] 51)) (.complex .f32 0 0) (.complex .f32 0 0) (.complex .f32 0 0) (.complex .f32 0 0) 51
  simp only [World.size_alloc] at X
  have b0 : Below w.heap.size w ((w.alloc (.cells #[.complex .f32 a b, .complex .f32 c d, .complex .f32 e f, .complex .f32 g k] 51)).alloc (.cells #[.complex .f32 0 0, .complex .f32 0 0, .complex .f32 0 0, .complex .f32 0 0] 51)) := ((Below.refl _ _).alloc (Nat.le_refl _) _).alloc (by simp) _
  have X0 := Lib.hid X
  have B0 := Lib.hid b0
  have Y0 := Lib.hid Y
  obtain ⟨c0, c1, c2, c3⟩ := Y.cells
  have g0 := X.frozen 0
  have g1 := X.frozen 1
  have g2 := X.frozen 2
  have g3 := X.frozen 3
  obtain ⟨d0, d1, d2, d3⟩ := X.cells
  clear X Y b0
  obtain ⟨w0, hw0⟩ : ∃ w0, (w.alloc (.cells #[.complex .f32 a b, .complex .f32 c d, .complex .f32 e f, .complex .f32 g k] 51)).alloc (.cells #[.complex .f32 0 0, .complex .f32 0 0, .complex .f32 0 0, .complex .f32 0 0] 51) = w0 := ⟨_, rfl⟩
  rw [hw0] at X0 B0 Y0 c0 c1 c2 c3 g0 g1 g2 g3 d0 d1 d2 d3
  unfold MadeT czT T8.val quad
  go_enter Try.func57, Try.ntmps57
  go_wp2_with fail
  clear hw0
  go_region_held3 (fun w' => w'.cell? ⟨w.heap.size, 0, none⟩ = some (.complex .f32 a b) ∧ w'.cell? ⟨w.heap.size, 1, none⟩ = some (.complex .f32 c d) ∧ w'.cell? ⟨w.heap.size, 2, none⟩ = some (.complex .f32 e f) ∧ w'.cell? ⟨w.heap.size, 3, none⟩ = some (.complex .f32 g k)) (go_keep)
    (first
      | (go_at_call_of 86 (Value.agg #[Value.complex FloatKind.f32 a b, Value.complex FloatKind.f32 c d]); refine (KS.out _).mono ?_; rintro e' w4 ⟨rfl, b4⟩; have X4 := Lib.hid (X0.out.drew.below b4 X0.out.drew.lt); have Y4 := Lib.hid (Y0.out.drew.below b4 Y0.out.drew.lt); have B4 := Lib.hid (B0.out.drew.trans (b4.mono B0.out.drew.size)); clear b4; obtain ⟨x0, x1, x2, x3⟩ := Y4.out.cells)
      | (go_at_call_of 86 (Value.agg #[Value.complex FloatKind.f32 e f, Value.complex FloatKind.f32 g k]); refine (KS'.out _).mono ?_; rintro e' w5 ⟨rfl, b5⟩; have X5 := Lib.hid (X4.out.below b5 X4.out.lt); have Y5 := Lib.hid (Y4.out.below b5 Y4.out.lt); have B5 := Lib.hid (B4.out.trans (b5.mono B4.out.size)); clear b5; obtain ⟨x0, x1, x2, x3⟩ := Y5.out.cells; have g0 := X5.out.frozen 0; have g1 := X5.out.frozen 1; have g2 := X5.out.frozen 2; have g3 := X5.out.frozen 3; obtain ⟨y0, y1, y2, y3⟩ := X5.out.cells))
  all_goals
    obtain ⟨k0, k1, k2, k3⟩ := (X5.out.put (.complex .f32 (cz a) (cz b)) (.complex .f32 (cz c) (cz d)) (.complex .f32 (cz e) (cz f)) (.complex .f32 (cz g) (cz k))).cells
    clear d0 d1 d2 d3
    go_wp2
    refine bodyPost_ret (v := .agg #[.complex .f32 (cz a) (cz b), .complex .f32 (cz c) (cz d), .complex .f32 (cz e) (cz f), .complex .f32 (cz g) (cz k)]) (by simp [results, Try.results57, go_sem, k0, k1, k2, k3]) rfl ?_
    exact ⟨rfl, below_set4 B5.out (Nat.le_succ _) _ _ _ _⟩
end Go.Proofs.Ytkfahacnanlnfaa
namespace Go.Proofs.Ytkfahacnanlnfaa
open Go.RowKit Ieee

def rtV (m : Int) (xs : List Pl.Pu) : T8 := if Pl.isSeq xs then (if m < 1 then zeroT else tblV m xs) else zeroT
def rtC (m : Int) (xs : List Pl.Pu) : Int := if Pl.isSeq xs then (if m < 1 then 2 else tblC m xs) else 1
theorem specRenewed1_any (A : Option Addr) (c : Nat) (xs : List Pl.Pu) (m : Int) (w : World) (hn : xs.length ≤ 1048576) (hr : Pl.Rd w A xs) :
    Calls Try.prog 56 #[.slice A xs.length c, .int .i64 m] w (MadeT2 (rtV m xs) (rtC m xs) w) := by
  have HR := Lib.hid hr; clear hr
  have X0 := Lib.hid (row4_new w (.complex .f32 0 0) (.complex .f32 0 0) (.complex .f32 0 0) (.complex .f32 0 0) 51)
  have b0 : Below w.heap.size w (w.alloc (.cells #[.complex .f32 0 0, .complex .f32 0 0, .complex .f32 0 0, .complex .f32 0 0] 51)) := (Below.refl w.heap.size w).alloc (Nat.le_refl _) _
  have R0 := Lib.hid (HR.out.below b0)
  have B0 := Lib.hid b0; clear b0
  unfold rtV rtC
  cases hs : Pl.isSeq xs with
  | false =>
    simp only [Bool.false_eq_true, if_false]
    unfold MadeT2 T8.val quad zeroT
    go_enter Try.func56, Try.ntmps56
    go_wp2_with (go_at_call 84; refine (Pl.l05Is_any _ _ _ _ hn R0.out).mono ?_; rintro e w' ⟨rfl, rfl⟩; rw [hs])
    refine bodyPost_ret (v := .tuple #[.agg #[.complex .f32 0 0, .complex .f32 0 0, .complex .f32 0 0, .complex .f32 0 0], .int .i64 1]) (by simp [results, Try.results56, go_sem]) rfl ?_
    exact ⟨rfl, B0.out⟩
  | true =>
    simp only [if_true]
    by_cases hm : m < 1
    · rw [if_pos hm, if_pos hm]
      unfold MadeT2 T8.val quad zeroT
      go_enter Try.func56, Try.ntmps56
      go_wp2_with (go_at_call 84; refine (Pl.l05Is_any _ _ _ _ hn R0.out).mono ?_; rintro e w' ⟨rfl, rfl⟩; rw [hs])
      refine bodyPost_ret (v := .tuple #[.agg #[.complex .f32 0 0, .complex .f32 0 0, .complex .f32 0 0, .complex .f32 0 0], .int .i64 2]) (by simp [results, Try.results56, go_sem]) rfl ?_
      exact ⟨rfl, B0.out⟩
    · rw [if_neg hm, if_neg hm]
      have KT := Lib.hid (fun w hw => l05Table_any A c xs m w hs hw (by omega))
      unfold MadeT2 T8.val quad at KT ⊢
      generalize tblV m xs = t at *
      generalize tblC m xs = k at *
      go_enter Try.func56, Try.ntmps56
      go_wp2_with (go_at_call 84; refine (Pl.l05Is_any _ _ _ _ hn R0.out).mono ?_; rintro e w' ⟨rfl, rfl⟩; rw [hs])
      refine (KT.out _ R0.out).mono ?_
      rintro e w1 ⟨rfl, b1⟩
      have X1 := Lib.hid (X0.out.below b1 X0.out.lt)
      have B1 := Lib.hid (B0.out.trans (b1.mono B0.out.size))
      clear b1
      have g0 := X1.out.frozen 0
      have g1 := X1.out.frozen 1
      have g2 := X1.out.frozen 2
      have g3 := X1.out.frozen 3
      obtain ⟨c0, c1, c2, c3⟩ := X1.out.cells
      go_wp2
      obtain ⟨k0, k1, k2, k3⟩ := (X1.out.put (.complex .f32 t.a t.b) (.complex .f32 t.c t.d) (.complex .f32 t.e t.f) (.complex .f32 t.g t.h)).cells
      refine bodyPost_ret (v := .tuple #[.agg #[.complex .f32 t.a t.b, .complex .f32 t.c t.d, .complex .f32 t.e t.f, .complex .f32 t.g t.h], .int .i64 k]) (by simp [results, Try.results56, go_sem, k0, k1, k2, k3]) rfl ?_
      exact ⟨rfl, below_set4 B1.out (Nat.le_refl _) _ _ _ _⟩
theorem turn_val (t : T8) (w : World) : Calls Try.prog 57 #[.agg #[.complex .f32 t.a t.b, .complex .f32 t.c t.d, .complex .f32 t.e t.f, .complex .f32 t.g t.h]] w
    fun e w' => e = .returned (.agg #[.complex .f32 (cz t.a) (cz t.b), .complex .f32 (cz t.c) (cz t.d), .complex .f32 (cz t.e) (cz t.f), .complex .f32 (cz t.g) (cz t.h)]) ∧ Below w.heap.size w w' := l00Turn_any t w
theorem specRenewed_any (A : Option Addr) (c : Nat) (xs : List Pl.Pu) (m : Int) (w : World) (hn : xs.length ≤ 1048576) (hr : Pl.Rd w A xs) :
    Calls Try.prog 25 #[.slice A xs.length c, .int .i64 m] w (MadeT2 (czT (rtV m xs)) (rtC m xs) w) := by
  have X0 := Lib.hid (row4_new w (.complex .f32 0 0) (.complex .f32 0 0) (.complex .f32 0 0) (.complex .f32 0 0) 51)
  have b0 : Below w.heap.size w (w.alloc (.cells #[.complex .f32 0 0, .complex .f32 0 0, .complex .f32 0 0, .complex .f32 0 0] 51)) := (Below.refl w.heap.size w).alloc (Nat.le_refl _) _
  have R0 := Lib.hid (hr.below b0)
  have B0 := Lib.hid b0; clear b0 hr
  have KT := Lib.hid (fun w hw => specRenewed1_any A c xs m w hn hw)
  unfold MadeT2 czT T8.val quad at *
  dsimp only at *
  generalize rtV m xs = t at *
  generalize rtC m xs = k at *
  have KS := Lib.hid (fun w => turn_val t w)
  go_enter Try.func25, Try.ntmps25
  go_wp2_with fail
  refine (KT.out _ R0.out).mono ?_
  rintro e w1 ⟨rfl, b1⟩
  have X1 := Lib.hid (X0.out.below b1 X0.out.lt)
  have B1 := Lib.hid (B0.out.trans (b1.mono B0.out.size))
  clear b1
  have X2 := Lib.hid (X1.out.alloc (.cells #[.complex .f32 t.a t.b, .complex .f32 t.c t.d, .complex .f32 t.e t.f, .complex .f32 t.g t.h] 51))
  have B2 := Lib.hid (B1.out.alloc B1.out.size (.cells #[.complex .f32 t.a t.b, .complex .f32 t.c t.d, .complex .f32 t.e t.f, .complex .f32 t.g t.h] 51))
  go_wp2_with fail
  refine (KS.out _).mono ?_
  rintro e w3 ⟨rfl, b3⟩
  have X3 := Lib.hid (X2.out.below b3 X2.out.lt)
  have B3 := Lib.hid (B2.out.trans (b3.mono B2.out.size))
  clear b3
  have g0 := X3.out.frozen 0
  have g1 := X3.out.frozen 1
  have g2 := X3.out.frozen 2
  have g3 := X3.out.frozen 3
  obtain ⟨c0, c1, c2, c3⟩ := X3.out.cells
  go_wp2
  obtain ⟨k0, k1, k2, k3⟩ := (X3.out.put (.complex .f32 (cz t.a) (cz t.b)) (.complex .f32 (cz t.c) (cz t.d)) (.complex .f32 (cz t.e) (cz t.f)) (.complex .f32 (cz t.g) (cz t.h))).cells
  refine bodyPost_ret (v := .tuple #[.agg #[.complex .f32 (cz t.a) (cz t.b), .complex .f32 (cz t.c) (cz t.d), .complex .f32 (cz t.e) (cz t.f), .complex .f32 (cz t.g) (cz t.h)], .int .i64 k]) (by simp [results, Try.results25, go_sem, k0, k1, k2, k3]) rfl ?_
  exact ⟨rfl, below_set4 B3.out (Nat.le_refl _) _ _ _ _⟩
end Go.Proofs.Ytkfahacnanlnfaa
