/- Walks: two tables compared. -/
/- The walk of the law on renewed tables. -/
import Derived.Test.YtkfahacnanlnfaaZBd
import Derived.Test.YtkfahacnanlnfaaZEo
import Derived.Test.YtkfahacnanlnfaaZFp
namespace Go.Proofs.Ytkfahacnanlnfaa
open Go.RowKit Ieee

/-- What lies there while two rows are compared. -/
def Two2 (w : World) (a b : Value) (w' : World) : Prop := Row2 w' w.heap.size a b ∧ Row2 w' (w.heap.size + 1) a b ∧ Below w.heap.size w w'
theorem Two2.drewN {w w1 : World} {a b : Value} (h : Two2 w a b w1) (n : Nat) : Two2 w a b (w1.drewN n) :=
  ⟨h.1, h.2.1, h.2.2.trans ⟨rfl, rfl, rfl, Nat.le_refl _, fun _ _ => rfl⟩⟩
theorem two2_start (w : World) (a b : Value) : Two2 w a b ((w.alloc (.cells #[a, b] 49)).alloc (.cells #[a, b] 49)) := by
  have Y := row2_new (w.alloc (.cells #[a, b] 49)) a b 49
  simp only [World.size_alloc] at Y
  exact ⟨(row2_new w a b 49).alloc _, Y, ((Below.refl _ _).alloc (Nat.le_refl _) _).alloc (by simp) _⟩
set_option maxHeartbeats 1000000 in
theorem eqC2_any (p0 p1 p2 p3 : Nat) (w : World) (f0 : fin32 p0 = true) (f1 : fin32 p1 = true) (f2 : fin32 p2 = true) (f3 : fin32 p3 = true) :
    Calls Try.prog 62 #[.agg #[.complex .f32 p0 p1, .complex .f32 p2 p3], .agg #[.complex .f32 p0 p1, .complex .f32 p2 p3]] w fun e w' => e = .returned (.bool true) ∧ Below w.heap.size w w' := by
  have T0 := Lib.hid (two2_start w (.complex .f32 p0 p1) (.complex .f32 p2 p3))
  have h0 := wide_cplx f0 f1
  have h1 := wide_cplx f2 f3
  have G0 := Lib.hid (And.intro (fin_wide f0) (fin_wide f1))
  have G1 := Lib.hid (And.intro (fin_wide f2) (fin_wide f3))
  clear f0 f1 f2 f3
  generalize wide p0 = q0 at *
  generalize wide p1 = q1 at *
  generalize wide p2 = q2 at *
  generalize wide p3 = q3 at *
  go_enter Try.func62, Try.ntmps62
  go_wp2
  go_loopw [5] (fun i wr => ∃ k : Nat, k ≤ 2 ∧ i = .int .i64 k ∧ Two2 w (.complex .f32 p0 p1) (.complex .f32 p2 p3) wr) (fun i _ => 2 - (intOf i).toNat)
  case atStart => exact ⟨0, by omega, rfl, T0.out⟩
  case round =>
    obtain ⟨k, hk, rfl, ht⟩ := hrel
    clear T0
    obtain ⟨c0, c1⟩ := ht.1.cells
    obtain ⟨d0, d1⟩ := ht.2.1.cells
    have TT := Lib.hid ht; clear ht
    rcases (by omega : k = 0 ∨ k = 1 ∨ k = 2) with rfl | rfl | rfl
    · go_wp2
      go_quiet ((go_at_call 46; exact Calls.quiet_of_same ((sameComplex_any q0 q1 _ G0.out.1 G0.out.2).mono fun _ _ h => ⟨h.1, h.2.symm⟩)))
      go_wp2
      exact ⟨⟨1, by omega, by rfl, TT.out.drewN _⟩, by decide⟩
    · go_wp2
      go_quiet ((go_at_call 46; exact Calls.quiet_of_same ((sameComplex_any q2 q3 _ G1.out.1 G1.out.2).mono fun _ _ h => ⟨h.1, h.2.symm⟩)))
      go_wp2
      exact ⟨⟨2, by omega, by rfl, TT.out.drewN _⟩, by decide⟩
    · go_wp2
      go_ret
      exact ⟨rfl, TT.out.2.2⟩
theorem two4_start' (w : World) (a b c d : Value) : Two4 w a b c d ((w.alloc (.cells #[a, b, c, d] 51)).alloc (.cells #[a, b, c, d] 51)) := by
  have Y := row4_new (w.alloc (.cells #[a, b, c, d] 51)) a b c d 51
  simp only [World.size_alloc] at Y
  exact ⟨(row4_new w a b c d 51).alloc _, Y, ((Below.refl _ _).alloc (Nat.le_refl _) _).alloc (by simp) _⟩
theorem Two4.below {w w1 w2 : World} {a b c d : Value} (h : Two4 w a b c d w1) (hb : Below w1.heap.size w1 w2) : Two4 w a b c d w2 :=
  ⟨h.1.below hb h.1.lt, h.2.1.below hb h.2.1.lt, h.2.2.trans (hb.mono h.2.2.size)⟩
theorem Two4.drew {w w1 : World} {a b c d : Value} (h : Two4 w a b c d w1) : Two4 w a b c d w1.drew := h.drewN 1
set_option maxHeartbeats 1000000 in
theorem eqTurn_any (t : T8) (w : World) (f0 : fin32 t.a = true) (f1 : fin32 t.b = true) (f2 : fin32 t.c = true) (f3 : fin32 t.d = true) (f4 : fin32 t.e = true) (f5 : fin32 t.f = true) (f6 : fin32 t.g = true) (f7 : fin32 t.h = true) :
    Calls Try.prog 28 #[.agg #[.complex .f32 t.a t.b, .complex .f32 t.c t.d, .complex .f32 t.e t.f, .complex .f32 t.g t.h], .agg #[.complex .f32 t.a t.b, .complex .f32 t.c t.d, .complex .f32 t.e t.f, .complex .f32 t.g t.h]] w fun e w' => e = .returned (.bool true) ∧ Below w.heap.size w w' := by
  have K0 := Lib.hid (fun w => eqC2_any t.a t.b t.c t.d w f0 f1 f2 f3)
  have K1 := Lib.hid (fun w => eqC2_any t.e t.f t.g t.h w f4 f5 f6 f7)
  clear f0 f1 f2 f3 f4 f5 f6 f7
  obtain ⟨a, b, c, d, e0, f, g, h⟩ := t
  dsimp only at *
  have T0 := Lib.hid (two4_start' w (.complex .f32 a b) (.complex .f32 c d) (.complex .f32 e0 f) (.complex .f32 g h))
  go_enter Try.func28, Try.ntmps28
  go_wp2
  go_loopw [5] (fun i wr => ∃ k : Nat, k ≤ 2 ∧ i = .int .i64 k ∧ Two4 w (.complex .f32 a b) (.complex .f32 c d) (.complex .f32 e0 f) (.complex .f32 g h) wr) (fun i _ => 2 - (intOf i).toNat)
  case atStart => exact ⟨0, by omega, rfl, T0.out⟩
  case round =>
    obtain ⟨k, hk, rfl, ht⟩ := hrel
    clear T0
    obtain ⟨c0, c1, c2, c3⟩ := ht.1.cells
    obtain ⟨d0, d1, d2, d3⟩ := ht.2.1.cells
    have TT := Lib.hid ht; clear ht
    rcases (by omega : k = 0 ∨ k = 1 ∨ k = 2) with rfl | rfl | rfl
    · go_wp2_with fail
      go_region_held3 (fun w' => w'.cell? ⟨w.heap.size, 0, none⟩ = some (.complex .f32 a b) ∧ w'.cell? ⟨w.heap.size, 1, none⟩ = some (.complex .f32 c d) ∧ w'.cell? ⟨w.heap.size + 1, 0, none⟩ = some (.complex .f32 a b) ∧ w'.cell? ⟨w.heap.size + 1, 1, none⟩ = some (.complex .f32 c d)) (go_keep)
        ((go_at_call 62; refine (K0.out _).mono ?_; rintro e' w4 ⟨rfl, b4⟩; have TT4 := Lib.hid (TT.out.drew.below b4); clear b4; obtain ⟨x0, x1, x2, x3⟩ := TT4.out.1.cells; obtain ⟨y0, y1, y2, y3⟩ := TT4.out.2.1.cells))
      all_goals
        go_wp2
        exact ⟨⟨1, by omega, by rfl, TT4.out⟩, by decide⟩
    · go_wp2_with fail
      go_region_held3 (fun w' => w'.cell? ⟨w.heap.size, 2, none⟩ = some (.complex .f32 e0 f) ∧ w'.cell? ⟨w.heap.size, 3, none⟩ = some (.complex .f32 g h) ∧ w'.cell? ⟨w.heap.size + 1, 2, none⟩ = some (.complex .f32 e0 f) ∧ w'.cell? ⟨w.heap.size + 1, 3, none⟩ = some (.complex .f32 g h)) (go_keep)
        ((go_at_call 62; refine (K1.out _).mono ?_; rintro e' w4 ⟨rfl, b4⟩; have TT4 := Lib.hid (TT.out.drew.below b4); clear b4; obtain ⟨x0, x1, x2, x3⟩ := TT4.out.1.cells; obtain ⟨y0, y1, y2, y3⟩ := TT4.out.2.1.cells))
      all_goals
        go_wp2
        exact ⟨⟨2, by omega, by rfl, TT4.out⟩, by decide⟩
    · go_wp2
      go_ret
      exact ⟨rfl, TT.out.2.2⟩
end Go.Proofs.Ytkfahacnanlnfaa
namespace Go.Proofs.Ytkfahacnanlnfaa
open Go.RowKit Ieee

def finT (t : T8) : Prop := fin32 t.a = true ∧ fin32 t.b = true ∧ fin32 t.c = true ∧ fin32 t.d = true ∧ fin32 t.e = true ∧ fin32 t.f = true ∧ fin32 t.g = true ∧ fin32 t.h = true
theorem limT.finCz {K : Int} {t : T8} (h : limT K t) : finT (czT t) :=
  ⟨(lim_cz h.1.1).fin, (lim_cz h.1.2).fin, (lim_cz h.2.1.1).fin, (lim_cz h.2.1.2).fin, (lim_cz h.2.2.1.1).fin, (lim_cz h.2.2.1.2).fin, (lim_cz h.2.2.2.1).fin, (lim_cz h.2.2.2.2).fin⟩
theorem rt_fin (m : Int) (xs : List Pl.Pu) : finT (czT (rtV m xs)) := by
  unfold rtV
  cases hs : Pl.isSeq xs with
  | false => exact (limT_zero (K := 0)).finCz
  | true =>
    rw [if_pos rfl]
    split
    · exact (limT_zero (K := 0)).finCz
    · unfold tblV
      cases h : tbl m xs xs.length with
      | none => exact (limT_zero (K := 0)).finCz
      | some t => exact (tbl_lim hs _ t (Nat.le_refl _) h).finCz
theorem Own_rd2 {w : World} {base : Nat} {v : Value} {xs : List Pl.Pu} (h : Pl.Own w base v xs) : ∃ A c, v = .slice A xs.length c ∧ Pl.Rd w A xs ∧ ∀ b off, A = some ⟨b, off, none⟩ → b < w.heap.size := by
  rcases h with ⟨rfl, rfl⟩ | ⟨G, cap, more, rfl, hG, hr, h1, h2, h3⟩
  · exact ⟨none, 0, rfl, fun k p h => by simp at h, fun b off e => by cases e⟩
  · exact ⟨_, cap, rfl, fun k p hk => ⟨G, 0, rfl, hr.lt, by simpa using hr.cells hk⟩, fun b off e => by cases e; exact hr.lt⟩
set_option maxHeartbeats 1000000 in
theorem renewed_walk (A : Option Addr) (c : Nat) (xs : List Pl.Pu) (m : Int) (w : World) (hm : xs.length ≤ maxLen) (hm2 : m ≤ 9223372036854775807) (hr : Pl.Rd w A xs) :
    Calls Try.prog 7 #[.slice A xs.length c, .int .i64 m] w fun e w' => e = .returned (.bool true) ∧ Below w.heap.size w w' := by
  unfold maxLen at hm
  by_cases hn : xs.length ≤ 1048576
  · have HR := Lib.hid hr; clear hr
    have HF := Lib.hid (rt_fin m xs)
    have KS := Lib.hid (fun A c w hr => specRenewed_any A c xs m w hn hr)
    have KI := Lib.hid (fun A c w hr hA => implRenewed_any A c xs m w hn hm2 hr hA)
    unfold MadeT2 T8.val quad at KS KI
    generalize czT (rtV m xs) = V at *
    generalize rtC m xs = q at *
    have KE := Lib.hid (fun w => eqTurn_any V w HF.out.1 HF.out.2.1 HF.out.2.2.1 HF.out.2.2.2.1 HF.out.2.2.2.2.1 HF.out.2.2.2.2.2.1 HF.out.2.2.2.2.2.2.1 HF.out.2.2.2.2.2.2.2)
    clear hm2 HF
    go_enter Try.func7, Try.ntmps7
    go_wp2_with (go_at_call 24; refine (Pl.szPulseS_any _ _ _ _ hn).mono ?_; rintro e w' ⟨rfl, rfl⟩)
    refine (Pl.toPulseS_any _ _ _ _ hn HR.out).mono ?_
    rintro e w1 ⟨v1, rfl, o1, b1⟩
    obtain ⟨A1, c1, rfl, r1⟩ := o1.rd
    have R1 := Lib.hid r1; clear r1 o1
    go_wp2_with fail
    refine (KS.out _ _ _ R1.out).mono ?_
    rintro e w2 ⟨rfl, b2⟩
    have B2 : Below w.heap.size w w2 := b1.trans (b2.mono b1.size)
    have X2 := Lib.hid (row4_new w2 (.complex .f32 V.a V.b) (.complex .f32 V.c V.d) (.complex .f32 V.e V.f) (.complex .f32 V.g V.h) 51)
    have B3 := Lib.hid (B2.alloc B2.size (.cells #[.complex .f32 V.a V.b, .complex .f32 V.c V.d, .complex .f32 V.e V.f, .complex .f32 V.g V.h] 51))
    clear b1 b2 B2
    go_wp2_with fail
    refine (Pl.toPulseS_any _ _ _ _ hn (HR.out.below B3.out)).mono ?_
    rintro e w4 ⟨v4, rfl, o4, b4⟩
    have X4 := Lib.hid (X2.out.below b4 X2.out.lt)
    have B4 := Lib.hid (B3.out.trans (b4.mono B3.out.size))
    clear b4
    obtain ⟨A4, c4, rfl, r4, h4⟩ := Own_rd2 o4
    have R4 := Lib.hid r4; clear r4 o4
    have H4 := Lib.hid h4; clear h4
    go_wp2_with fail
    refine (KI.out _ _ _ R4.out H4.out).mono ?_
    rintro e w5 ⟨rfl, b5⟩
    have X5 := Lib.hid (X4.out.below b5 X4.out.lt)
    have R5 := Lib.hid (R4.out.below b5)
    have B5 := Lib.hid (B4.out.trans (b5.mono B4.out.size))
    clear b5
    obtain ⟨x0, x1, x2, x3⟩ := X5.out.cells
    have lt := X5.out.lt
    have B6 := Lib.hid (B5.out.alloc B5.out.size (.cells #[.complex .f32 V.a V.b, .complex .f32 V.c V.d, .complex .f32 V.e V.f, .complex .f32 V.g V.h] 51))
    have R6 := Lib.hid (R5.out.below ((Below.refl _ _).alloc (Nat.le_refl _) (.cells #[.complex .f32 V.a V.b, .complex .f32 V.c V.d, .complex .f32 V.e V.f, .complex .f32 V.g V.h] 51)))
    go_wp2_with fail
    refine (KE.out _).mono ?_
    rintro e w7 ⟨rfl, b7⟩
    have R7 := Lib.hid (R6.out.below b7)
    have B7 := Lib.hid (B6.out.trans (b7.mono B6.out.size))
    clear b7
    go_wp2_with fail
    refine (Pl.toPulseS_any _ _ _ _ hn (HR.out.below B7.out)).mono ?_
    rintro e w8 ⟨v8, rfl, o8, b8⟩
    obtain ⟨A8, c8, rfl, r8⟩ := o8.rd
    have R8 := Lib.hid r8; clear r8 o8
    have R78 := Lib.hid (R7.out.below b8)
    have B8 := Lib.hid (B7.out.trans (b8.mono B7.out.size))
    clear b8
    go_wp2_with fail
    refine (Pl.eqPulseS_any _ _ _ _ _ _ _ rfl hn R78.out R8.out).mono ?_
    rintro e w9 ⟨rfl, b9⟩
    rw [decide_eq_true (rfl : xs = xs)]
    have B9 := Lib.hid (B8.out.trans (b9.mono B8.out.size))
    clear b9
    go_wp2
    go_ret
    exact ⟨rfl, B9.out⟩
  · go_enter Try.func7, Try.ntmps7
    go_wp2_with (go_at_call 24; refine (Pl.szPulseS_big _ _ _ _ (by omega) hm).mono ?_; rintro e w' ⟨rfl, rfl⟩)
    go_ret
    exact ⟨rfl, Below.refl _ _⟩
end Go.Proofs.Ytkfahacnanlnfaa
