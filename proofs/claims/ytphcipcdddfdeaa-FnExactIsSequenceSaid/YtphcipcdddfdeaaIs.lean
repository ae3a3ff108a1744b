/- FnExactIsSequence returns true at every input; its argument reads as before. -/
import Derived.Test.YtphcipcdddfdeaaC
namespace Go.Proofs.Ytphcipcdddfdeaa
open Go.RowKit

set_option maxHeartbeats 400000 in
theorem isSeq_walk (A : Option Addr) (c : Nat) (xs : List Pu) (w : World) (hm : xs.length ≤ maxLen) (hr : Rd w A xs) :
    Calls Try.prog 3 #[.slice A xs.length c] w fun e w' => e = .returned (.bool true) ∧ Below w.heap.size w w' := by
  unfold maxLen at hm
  by_cases hn : xs.length ≤ 1048576
  · have HR := Lib.hid hr; clear hr
    go_enter Try.func3, Try.ntmps3
    go_wp2_with (go_at_call 8; refine (szPulseS_any _ _ _ _ hn).mono ?_; rintro e w' ⟨rfl, rfl⟩)
    refine (toPulseS_any _ _ _ _ hn HR.out).mono ?_
    rintro e w1 ⟨v1, rfl, o1, b1⟩
    obtain ⟨A1, c1, rfl, r1⟩ := o1.rd
    have R1 := Lib.hid r1; clear r1
    go_wp2_with (go_at_call 9; refine (specIsSequence_any _ _ _ _ hn R1.out).mono ?_; rintro e w' ⟨rfl, rfl⟩)
    refine (toPulseS_any _ _ _ _ hn (HR.out.below b1)).mono ?_
    rintro e w2 ⟨v2, rfl, o2, b2⟩
    obtain ⟨A2, c2, rfl, r2⟩ := o2.rd
    have R2 := Lib.hid r2; clear r2
    go_wp2_with (go_at_call 11; refine (implIsSequence_any _ _ _ _ hn R2.out).mono ?_; rintro e w3 ⟨rfl, b3⟩)
    have B2 : Below w.heap.size w w2 := b1.trans (b2.mono b1.size)
    have B3 : Below w.heap.size w w3 := B2.trans (b3.mono B2.size)
    refine (toPulseS_any _ _ _ _ hn (HR.out.below B3)).mono ?_
    rintro e w4 ⟨v4, rfl, o4, b4⟩
    obtain ⟨A4, c4, rfl, r4⟩ := o4.rd
    have R4 := Lib.hid r4; clear r4
    have B4 : Below w.heap.size w w4 := B3.trans (b4.mono B3.size)
    go_wp2_with fail
    refine (eqPulseS_any _ _ _ _ _ _ _ rfl hn ((R2.out.below b3).below b4) R4.out).mono ?_
    rintro e w5 ⟨rfl, b5⟩
    have hd : decide (xs = xs) = true := by simp
    rw [hd]
    go_wp2
    go_ret
    exact ⟨rfl, B4.trans (b5.mono B4.size)⟩
  · go_enter Try.func3, Try.ntmps3
    go_wp2_with (go_at_call 8; refine (szPulseS_big _ _ _ _ (by omega) hm).mono ?_; rintro e w' ⟨rfl, rfl⟩)
    go_ret
    exact ⟨rfl, Below.refl _ _⟩
end Go.Proofs.Ytphcipcdddfdeaa
