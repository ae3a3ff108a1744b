/- FnExactSequenceText returns true at every input; its argument reads as before: the walk. -/
import Derived.Test.YtdijnjigamkhjaaGreatDoorI
namespace Go.Proofs.YtdijnjigamkhjaaGreatDoor
open Go.RowKit

def txtL (xs : List Pu) : List UInt8 := if isSeq xs then seqT xs else []
def txtC (xs : List Pu) : Int := if isSeq xs then 0 else 1
theorem txt_yes {xs : List Pu} (h : isSeq xs = true) : txtL xs = seqT xs ∧ txtC xs = 0 := by unfold txtL txtC; rw [h]; exact ⟨rfl, rfl⟩
theorem txt_no {xs : List Pu} (h : isSeq xs = false) : txtL xs = [] ∧ txtC xs = 1 := by unfold txtL txtC; rw [h]; exact ⟨rfl, rfl⟩

theorem implText_any (A : Option Addr) (c : Nat) (xs : List Pu) (w : World) (hn : xs.length ≤ 1048576) (hr : Rd w A xs) :
    Calls Tryz.prog 6 #[.slice A xs.length c] w (TellsS (txtL xs) (txtC xs) w) := by
  cases hs : isSeq xs with
  | true =>
    rw [(txt_yes hs).1, (txt_yes hs).2]
    exact implText_yes A c xs w hs hr
  | false =>
    rw [(txt_no hs).1, (txt_no hs).2]
    have HS := Lib.hid hs; clear hs
    have HR := Lib.hid hr; clear hr
    unfold TellsS
    go_enter Tryz.func6, Tryz.ntmps6
    go_wp2_with fail
    refine (implIsSequence_any _ _ _ _ hn HR.out).mono ?_
    rintro e w1 ⟨rfl, b1⟩
    rw [HS.out]
    have B1 := Lib.hid b1; clear b1
    go_wp2
    go_ret2
    exact ⟨rfl, B1.out⟩
theorem specText_any (A : Option Addr) (c : Nat) (xs : List Pu) (w : World) (hn : xs.length ≤ 1048576) (hr : Rd w A xs) :
    Calls Tryz.prog 7 #[.slice A xs.length c] w (TellsS (txtL xs) (txtC xs) w) := by
  have HR := Lib.hid hr; clear hr
  cases hs : isSeq xs with
  | true =>
    obtain ⟨hn6, hok⟩ := isSeq_parts hs
    rw [(txt_yes hs).1, (txt_yes hs).2]
    have HS := Lib.hid hs; clear hs
    have HO := Lib.hid hok; clear hok
    unfold TellsS
    go_enter Tryz.func7, Tryz.ntmps7
    go_wp2_with fail
    refine (l05Is_any _ _ _ _ hn HR.out).mono ?_
    rintro e w1 ⟨rfl, rfl⟩
    rw [HS.out]
    go_wp2_with fail
    refine (l05Text_any _ _ _ _ hn6 HO.out HR.out).mono ?_
    rintro e w1 ⟨rfl, b1⟩
    go_wp2
    go_ret2
    exact ⟨rfl, b1⟩
  | false =>
    rw [(txt_no hs).1, (txt_no hs).2]
    have HS := Lib.hid hs; clear hs
    unfold TellsS
    go_enter Tryz.func7, Tryz.ntmps7
    go_wp2_with fail
    refine (l05Is_any _ _ _ _ hn HR.out).mono ?_
    rintro e w1 ⟨rfl, rfl⟩
    rw [HS.out]
    go_wp2
    go_ret2
    exact ⟨rfl, Below.refl _ _⟩

end Go.Proofs.YtdijnjigamkhjaaGreatDoor
