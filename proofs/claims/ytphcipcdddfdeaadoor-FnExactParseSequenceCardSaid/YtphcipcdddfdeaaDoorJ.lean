/- FnExactSequenceText returns true at every input; its argument reads as before: the walk. -/
import Derived.Test.YtphcipcdddfdeaaDoorI
namespace Go.Proofs.YtphcipcdddfdeaaDoor
open Go.RowKit

def txtL (xs : List Pu) : List UInt8 := if isSeq xs then seqT xs else []
def txtC (xs : List Pu) : Int := if isSeq xs then 0 else 1
theorem txt_yes {xs : List Pu} (h : isSeq xs = true) : txtL xs = seqT xs ∧ txtC xs = 0 := by unfold txtL txtC; rw [h]; exact ⟨rfl, rfl⟩
theorem txt_no {xs : List Pu} (h : isSeq xs = false) : txtL xs = [] ∧ txtC xs = 1 := by unfold txtL txtC; rw [h]; exact ⟨rfl, rfl⟩

theorem implText_any (A : Option Addr) (c : Nat) (xs : List Pu) (w : World) (hn : xs.length ≤ 1048576) (hr : Rd w A xs) :
    Calls Tryd.prog 8 #[.slice A xs.length c] w (TellsS (txtL xs) (txtC xs) w) := by
  cases hs : isSeq xs with
  | true =>
    rw [(txt_yes hs).1, (txt_yes hs).2]
    exact implText_yes A c xs w hs hr
  | false =>
    rw [(txt_no hs).1, (txt_no hs).2]
    have HS := Lib.hid hs; clear hs
    have HR := Lib.hid hr; clear hr
    unfold TellsS
    go_enter Tryd.func8, Tryd.ntmps8
    go_wp2_with fail
    refine (implIsSequence_any _ _ _ _ hn HR.out).mono ?_
    rintro e w1 ⟨rfl, b1⟩
    rw [HS.out]
    have B1 := Lib.hid b1; clear b1
    go_wp2
    go_ret2
    exact ⟨rfl, B1.out⟩
theorem specText_any (A : Option Addr) (c : Nat) (xs : List Pu) (w : World) (hn : xs.length ≤ 1048576) (hr : Rd w A xs) :
    Calls Tryd.prog 6 #[.slice A xs.length c] w (TellsS (txtL xs) (txtC xs) w) := by
  have HR := Lib.hid hr; clear hr
  cases hs : isSeq xs with
  | true =>
    obtain ⟨hn6, hok⟩ := isSeq_parts hs
    rw [(txt_yes hs).1, (txt_yes hs).2]
    have HS := Lib.hid hs; clear hs
    have HO := Lib.hid hok; clear hok
    unfold TellsS
    go_enter Tryd.func6, Tryd.ntmps6
    go_wp2_with fail
    refine (l05Is_any _ _ _ _ hn HR.out).mono ?_
    rintro e w1 ⟨rfl, rfl⟩
    rw [HS.out]
    go_wp2_with fail
    refine (l05Text_any _ _ _ _ hn6 HO.out HR.out).mono ?_
    rintro e w1 ⟨rfl, b1⟩
    go_wp2
    go_ret2
    exact ⟨rfl, b1⟩
  | false =>
    rw [(txt_no hs).1, (txt_no hs).2]
    have HS := Lib.hid hs; clear hs
    unfold TellsS
    go_enter Tryd.func6, Tryd.ntmps6
    go_wp2_with fail
    refine (l05Is_any _ _ _ _ hn HR.out).mono ?_
    rintro e w1 ⟨rfl, rfl⟩
    rw [HS.out]
    go_wp2
    go_ret2
    exact ⟨rfl, Below.refl _ _⟩

set_option maxHeartbeats 1000000 in
theorem text_walk (A : Option Addr) (c : Nat) (xs : List Pu) (w : World) (hm : xs.length ≤ maxLen) (hr : Rd w A xs) :
    Calls Tryd.prog 3 #[.slice A xs.length c] w fun e w' => e = .returned (.bool true) ∧ Below w.heap.size w w' := by
  unfold maxLen at hm
  by_cases hn : xs.length ≤ 1048576
  · have HR := Lib.hid hr; clear hr
    have hi := fun A c w => implText_any A c xs w hn
    have hs := fun A c w => specText_any A c xs w hn
    generalize txtL xs = L at hi hs
    generalize txtC xs = k at hi hs
    have HI := Lib.hid hi; clear hi
    have HS := Lib.hid hs; clear hs
    go_enter Tryd.func3, Tryd.ntmps3
    go_wp2_with (go_at_call 5; refine (szPulseS_any _ _ _ _ hn).mono ?_; rintro e w' ⟨rfl, rfl⟩)
    refine (toPulseS_any _ _ _ _ hn HR.out).mono ?_
    rintro e w1 ⟨v1, rfl, o1, b1⟩
    obtain ⟨A1, c1, rfl, r1⟩ := o1.rd
    have R1 := Lib.hid r1; clear r1 o1
    go_wp2_with fail
    refine (HS.out _ _ _ R1.out).mono ?_
    rintro e w2 ⟨rfl, b2⟩
    have B2 : Below w.heap.size w w2 := b1.trans (b2.mono b1.size)
    clear b1 b2
    go_wp2_with fail
    refine (toPulseS_any _ _ _ _ hn (HR.out.below B2)).mono ?_
    rintro e w3 ⟨v3, rfl, o3, b3⟩
    obtain ⟨A3, c3, rfl, r3⟩ := o3.rd
    have R3 := Lib.hid r3; clear r3 o3
    have B3 : Below w.heap.size w w3 := B2.trans (b3.mono B2.size)
    clear b3 B2
    go_wp2_with fail
    refine (HI.out _ _ _ R3.out).mono ?_
    rintro e w4 ⟨rfl, b4⟩
    have R4 := Lib.hid (R3.out.below b4)
    have B4 : Below w.heap.size w w4 := B3.trans (b4.mono B3.size)
    clear b4 B3
    go_wp2_with fail
    refine (toPulseS_any _ _ _ _ hn (HR.out.below B4)).mono ?_
    rintro e w5 ⟨v5, rfl, o5, b5⟩
    obtain ⟨A5, c5, rfl, r5⟩ := o5.rd
    have R5 := Lib.hid r5; clear r5 o5
    have R6 := Lib.hid (R4.out.below b5)
    have B5 : Below w.heap.size w w5 := B4.trans (b5.mono B4.size)
    clear b5 B4
    go_wp2_with fail
    refine (eqPulseS_any _ _ _ _ _ _ _ rfl hn R6.out R5.out).mono ?_
    rintro e w6 ⟨rfl, b6⟩
    have hd : decide (xs = xs) = true := by simp
    rw [hd]
    go_wp2
    go_ret
    exact ⟨rfl, B5.trans (b6.mono B5.size)⟩
  · go_enter Tryd.func3, Tryd.ntmps3
    go_wp2_with (go_at_call 5; refine (szPulseS_big _ _ _ _ (by omega) hm).mono ?_; rintro e w' ⟨rfl, rfl⟩)
    go_ret
    exact ⟨rfl, Below.refl _ _⟩
end Go.Proofs.YtphcipcdddfdeaaDoor
