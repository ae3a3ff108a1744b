/- The walk of a law over a list of pulses. -/
import Derived.Test.YtphcipcdddfdeaaAn
namespace Go.Proofs.Ytphcipcdddfdeaa
open Go.RowKit

set_option maxHeartbeats 1000000 in
theorem angles_walk (A : Option Addr) (c : Nat) (xs : List Pu) (w : World) (hm : xs.length ≤ maxLen) (hr : Rd w A xs) :
    Calls Try.prog 5 #[.slice A xs.length c] w fun e w' => e = .returned (.bool true) ∧ Below w.heap.size w w' := by
  unfold maxLen at hm
  by_cases hn : xs.length ≤ 1048576
  · have HR := Lib.hid hr; clear hr
    have hbd3 := angRes_length xs
    have hbd : (angRes xs).length ≤ 1048576 := by omega
    go_enter Try.func5, Try.ntmps5
    go_wp2_with (go_at_call 8; refine (szPulseS_any _ _ _ _ hn).mono ?_; rintro e w' ⟨rfl, rfl⟩)
    refine (toPulseS_any _ _ _ _ hn HR.out).mono ?_
    rintro e w1 ⟨v1, rfl, o1, b1⟩
    obtain ⟨A1, c1, rfl, r1⟩ := o1.rd
    have R1 := Lib.hid r1; clear r1 o1
    go_wp2_with fail
    refine (specAngles_any _ _ _ _ hn R1.out).mono ?_
    rintro e w2 ⟨v2, rfl, o2, b2⟩
    have O2 := Lib.hid o2; clear o2
    have B2 : Below w.heap.size w w2 := b1.trans (b2.mono b1.size)
    go_wp2_with fail
    refine (toPulseS_any _ _ _ _ hn (HR.out.below B2)).mono ?_
    rintro e w3 ⟨v3, rfl, o3, b3⟩
    have O3 := Lib.hid o3; clear o3
    have B3 : Below w.heap.size w w3 := B2.trans (b3.mono B2.size)
    obtain ⟨A3, c3, rfl, r3⟩ := O3.out.rd
    have R3 := Lib.hid r3; clear r3
    go_wp2_with fail
    refine (implAngles_any _ _ _ _ hn R3.out).mono ?_
    rintro e w4 ⟨v4, rfl, o4, b4⟩
    have O4 := Lib.hid o4; clear o4
    have B4 : Below w.heap.size w w4 := B3.trans (b4.mono B3.size)
    obtain ⟨A4, rfl, r4⟩ := O4.out.rd
    have R4 := Lib.hid r4; clear r4
    have O24 := Lib.hid ((O2.out.below b3).below b4)
    obtain ⟨A2, rfl, r2⟩ := O24.out.rd
    have R2 := Lib.hid r2; clear r2
    have hcd : (angCode xs != angCode xs) = false := by simp
    go_wp2_with fail
    refine (eqInt64S_any _ _ _ _ _ _ _ rfl hbd R4.out R2.out).mono ?_
    rintro e w5 ⟨rfl, b5⟩
    have B5 : Below w.heap.size w w5 := B4.trans (b5.mono B4.size)
    go_wp2_with fail
    refine (toPulseS_any _ _ _ _ hn (HR.out.below B5)).mono ?_
    rintro e w6 ⟨v6, rfl, o6, b6⟩
    have B6 : Below w.heap.size w w6 := B5.trans (b6.mono B5.size)
    obtain ⟨A6, c6, rfl, r6⟩ := o6.rd
    have R6 := Lib.hid r6; clear r6 o6
    have O36 := Lib.hid (((O3.out.below b4).below b5).below b6)
    have R36 := Lib.hid (((R3.out.below b4).below b5).below b6)
    go_wp2_with fail
    refine (eqPulseS_any _ _ _ _ _ _ _ rfl hn R36.out R6.out).mono ?_
    rintro e w7 ⟨rfl, b7⟩
    rw [decide_eq_true (rfl : xs = xs)]
    have B7 : Below w.heap.size w w7 := B6.trans (b7.mono B6.size)
    have O37 := Lib.hid (O36.out.below b7)
    go_wp2_with fail
    refine (mark_any _ _ _ _ _ hn (by omega) (by omega) O37.out).mono ?_
    rintro e w8 ⟨rfl, o38, g8⟩
    clear o38
    have B8 : Below w.heap.size w w8 := B7.grown g8 B7.size (fun g e => by have := (O37.out.base g e).1; have := B2.size; omega)
    have hk : ¬ (1 + 3 * (xs.length : Int) < 0) := by omega
    have O28 := Lib.hid ((((O24.out.below b5).below b6).below b7).grown g8 (fun g e e2 => by have h1 := (O3.out.base g e).1; have h2 := (O2.out.base_ e2).2; omega))
    have O48 := Lib.hid ((((O4.out.below b5).below b6).below b7).grown g8 (fun g e e2 => by have h1 := (O3.out.base g e).2; have h2 := (O4.out.base_ e2).1; omega))
    obtain ⟨A28, e28, r28⟩ := O28.out.rd
    obtain ⟨A48, e48, r48⟩ := O48.out.rd
    cases e28
    cases e48
    have R28 := Lib.hid r28; clear r28
    have R48 := Lib.hid r48; clear r48
    go_wp2_with fail
    refine (eqInt64S_any _ _ _ _ _ _ _ rfl hbd R48.out R28.out).mono ?_
    rintro e w9 ⟨rfl, b9⟩
    have B9 : Below w.heap.size w w9 := B8.trans (b9.mono B8.size)
    have O49 := Lib.hid (O48.out.below b9)
    have O29 := Lib.hid (O28.out.below b9)
    go_wp2_with fail
    refine (markI_any _ _ _ _ _ hbd (by omega) (by omega) O49.out).mono ?_
    rintro e w10 ⟨rfl, o410, g10⟩
    have O410 := Lib.hid o410; clear o410
    have B10 : Below w.heap.size w w10 := B9.grown g10 B9.size (fun g e => by have := (O4.out.base_ e).1; have := B3.size; omega)
    have O210 := Lib.hid (O29.out.grown g10 (fun g e e2 => by have h1 := (O4.out.base_ e).1; have h2 := (O2.out.base_ e2).2; have := b3.size; omega))
    obtain ⟨A410, e410, r410⟩ := O410.out.rd
    rw [markI_length] at e410
    cases e410
    have R410 := Lib.hid r410; clear r410
    have hq : ¬ (1 + ((angRes xs).length : Int) < 0) := by omega
    go_wp2_with (go_at_call 21; refine (heldI_any _ _ _ _ _ hbd (by omega) (by omega) R410.out).mono ?_; rintro e w' ⟨rfl, rfl⟩)
    refine (toPulseS_any _ _ _ _ hn (HR.out.below B10)).mono ?_
    rintro e w11 ⟨v11, rfl, o11, b11⟩
    have B11 : Below w.heap.size w w11 := B10.trans (b11.mono B10.size)
    obtain ⟨A11, c11, rfl, r11⟩ := o11.rd
    have R11 := Lib.hid r11; clear r11 o11
    go_wp2_with fail
    refine (implAngles_any _ _ _ _ hn R11.out).mono ?_
    rintro e w12 ⟨v12, rfl, o12, b12⟩
    have B12 : Below w.heap.size w w12 := B11.trans (b12.mono B11.size)
    obtain ⟨A12, rfl, r12⟩ := o12.rd
    have R12 := Lib.hid r12; clear r12 o12
    have O212 := Lib.hid ((O210.out.below b11).below b12)
    obtain ⟨A212, e212, r212⟩ := O212.out.rd
    cases e212
    have R212 := Lib.hid r212; clear r212
    go_wp2_with fail
    refine (eqInt64S_any _ _ _ _ _ _ _ rfl hbd R12.out R212.out).mono ?_
    rintro e w13 ⟨rfl, b13⟩
    have B13 : Below w.heap.size w w13 := B12.trans (b13.mono B12.size)
    have R413 := Lib.hid (((R410.out.below b11).below b12).below b13)
    go_wp2_with (go_at_call 21; refine (heldI_any _ _ _ _ _ hbd (by omega) (by omega) R413.out).mono ?_; rintro e w' ⟨rfl, rfl⟩)
    go_ret
    exact ⟨rfl, B13⟩
  · go_enter Try.func5, Try.ntmps5
    go_wp2_with (go_at_call 8; refine (szPulseS_big _ _ _ _ (by omega) hm).mono ?_; rintro e w' ⟨rfl, rfl⟩)
    go_ret
    exact ⟨rfl, Below.refl _ _⟩
end Go.Proofs.Ytphcipcdddfdeaa
