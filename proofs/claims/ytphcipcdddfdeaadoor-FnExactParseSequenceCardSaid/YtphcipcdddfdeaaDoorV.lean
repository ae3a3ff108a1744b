/- FnExactParseSequence returns true at every input: the walk. -/
import Derived.Test.YtphcipcdddfdeaaDoorU
import Derived.Test.YtphcipcdddfdeaaDoorJ
namespace Go.Proofs.YtphcipcdddfdeaaDoor
open Go.RowKit

theorem prV_length (l : List UInt8) : (prV l).length ≤ 60 := by
  unfold prV readL
  split
  · simp
  · split
    · simp
    · rename_i h
      cases hs : seqOf (spl l) with
      | none => simp
      | some ps =>
        have := seqOf_length hs
        show ps.length ≤ 60
        omega
set_option maxHeartbeats 2000000 in
theorem parse_walk (S : ByteArray) (w : World) (hev : Ev w) :
    Calls Tryd.prog 4 #[.string S] w fun e w' => e = .returned (.bool true) ∧ Below w.heap.size w w' := by
  by_cases hn : S.size ≤ 1048576
  · obtain ⟨l, hl⟩ : ∃ l, S.data.toList = l := ⟨_, rfl⟩
    have hS : S = ⟨l.toArray⟩ := by rw [← hl]
    have hll : l.length ≤ 1048576 := by rw [← size_list, ← hS]; exact hn
    have HS := Lib.hid (fun w => specParse_any l w hll)
    have HI := Lib.hid (fun w hev => implParse_any l w hll hev)
    rw [← hS] at HS HI
    have hbd := prV_length l
    generalize prV l = xs at *
    generalize prC l = k at *
    have HE := Lib.hid hev
    have hsz : (S.size : Int) ≤ 1048576 := by omega
    clear hl hS hll hev
    unfold MadeP at *
    have hle : ¬ (1 + 3 * (xs.length : Int) < 0) := by omega
    have hb2 : xs.length ≤ 1048576 := by omega
    go_enter Tryd.func4, Tryd.ntmps4
    go_wp2_with fail
    refine (HS.out _).mono ?_
    rintro e w1 ⟨v1, rfl, o1, b1⟩
    have O1 := Lib.hid o1; clear o1
    obtain ⟨A1, c1, rfl, r1⟩ := O1.out.rd
    clear r1
    go_wp2_with fail
    refine (HI.out _ (HE.out.below b1)).mono ?_
    rintro e w2 ⟨v2, rfl, o2, b2⟩
    have O2 := Lib.hid o2; clear o2
    obtain ⟨A2, c2, rfl, r2⟩ := O2.out.rd
    have B2 : Below w.heap.size w w2 := b1.trans (b2.mono b1.size)
    have R2 := Lib.hid r2; clear r2
    have O12 := Lib.hid (O1.out.below b2)
    obtain ⟨A12, c12, e12, r12⟩ := O12.out.rd
    cases e12
    have R12 := Lib.hid r12; clear r12
    go_wp2_with fail
    refine (eqPulseS_any _ _ _ _ _ _ _ rfl hb2 R2.out R12.out).mono ?_
    rintro e w3 ⟨rfl, b3⟩
    rw [decide_eq_true (rfl : xs = xs)]
    have B3 : Below w.heap.size w w3 := B2.trans (b3.mono B2.size)
    have O13 := Lib.hid (O12.out.below b3)
    have O23 := Lib.hid (O2.out.below b3)
    go_wp2_with fail
    refine (mark_any _ _ _ _ _ hb2 (by omega) (by omega) O23.out).mono ?_
    rintro e w4 ⟨rfl, o24, g4⟩
    have O24 := Lib.hid o24; clear o24
    have B4 : Below w.heap.size w w4 := B3.grown g4 B3.size (fun g e => by have := (O2.out.lt' g e).1; have := b1.size; omega)
    have O14 := Lib.hid (O13.out.grown g4 (fun g e e2 => by have h1 := (O2.out.lt' g e).1; have h2 := (O1.out.lt' g e2).2; omega))
    obtain ⟨A24, c24, e24, r24⟩ := O24.out.rd
    rw [markL_length] at e24
    cases e24
    have R24 := Lib.hid r24; clear r24
    go_wp2_with (go_at_call 13; refine (heldRow_any _ _ _ _ _ hb2 (by omega) (by omega) R24.out).mono ?_; rintro e w' ⟨rfl, rfl⟩)
    refine (HI.out _ (HE.out.below B4)).mono ?_
    rintro e w5 ⟨v5, rfl, o5, b5⟩
    have B5 : Below w.heap.size w w5 := B4.trans (b5.mono B4.size)
    obtain ⟨A5, c5, rfl, r5⟩ := o5.rd
    have R5 := Lib.hid r5; clear r5 o5
    have O15 := Lib.hid (O14.out.below b5)
    obtain ⟨A15, c15, e15, r15⟩ := O15.out.rd
    cases e15
    have R15 := Lib.hid r15; clear r15
    go_wp2_with fail
    refine (eqPulseS_any _ _ _ _ _ _ _ rfl hb2 R5.out R15.out).mono ?_
    rintro e w6 ⟨rfl, b6⟩
    rw [decide_eq_true (rfl : xs = xs)]
    have B6 : Below w.heap.size w w6 := B5.trans (b6.mono B5.size)
    have R26 := Lib.hid ((R24.out.below b5).below b6)
    go_wp2_with (go_at_call 13; refine (heldRow_any _ _ _ _ _ hb2 (by omega) (by omega) R26.out).mono ?_; rintro e w' ⟨rfl, rfl⟩)
    go_ret
    exact ⟨rfl, B6⟩
  · have hsz : ¬ (S.size : Int) ≤ 1048576 := by omega
    go_enter Tryd.func4, Tryd.ntmps4
    go_wp2
    go_ret
    exact ⟨rfl, Below.refl _ _⟩
end Go.Proofs.YtphcipcdddfdeaaDoor
