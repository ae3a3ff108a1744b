/- The cross product: comparing two vectors. -/
import Derived.Test.YtkfahacnanlnfaaCh
import Derived.Test.YtkfahacnanlnfaaW
namespace Go.Proofs.Ytkfahacnanlnfaa
open Go.RowKit Ieee

/-- What lies there while two vectors are compared. -/
def Two (w : World) (a b c : Nat) (w' : World) : Prop := Box3 w' w.heap.size a b c ∧ Box3 w' (w.heap.size + 1) a b c ∧ Below w.heap.size w w'
theorem Two.drewN {w w1 : World} {a b c : Nat} (h : Two w a b c w1) (n : Nat) : Two w a b c (w1.drewN n) := by
  exact ⟨h.1, h.2.1, h.2.2.trans ⟨rfl, rfl, rfl, Nat.le_refl _, fun _ _ => rfl⟩⟩

theorem eqVector_any (a b c : Nat) (w : World) (fa : fin32 a = true) (fb : fin32 b = true) (fc : fin32 c = true) : Calls Try.prog 15 #[vec a b c, vec a b c] w fun e w' =>
    e = .returned (.bool true) ∧ Below w.heap.size w w' := by
  obtain ⟨X, Y, b0⟩ := boxes w a b c a b c
  have T0 := Lib.hid (show Two w a b c _ from ⟨X, Y, b0⟩)
  clear X Y b0
  have ca := wide_conv fa
  have cb := wide_conv fb
  have cc := wide_conv fc
  have ga := fin_wide fa
  have gb := fin_wide fb
  have gc := fin_wide fc
  generalize wide a = a1 at *
  generalize wide b = b1 at *
  generalize wide c = c1 at *
  have GA := Lib.hid ga; clear ga fa
  have GB := Lib.hid gb; clear gb fb
  have GC := Lib.hid gc; clear gc fc
  unfold vec
  go_enter Try.func15, Try.ntmps15
  go_wp2
  go_loopw [5] (fun i wr => ∃ k : Nat, k ≤ 3 ∧ i = .int .i64 k ∧ Two w a b c wr) (fun i _ => 3 - (intOf i).toNat)
  case atStart => exact ⟨0, by omega, rfl, T0.out⟩
  case round =>
    obtain ⟨k, hk, rfl, ht⟩ := hrel
    clear T0
    obtain ⟨c0, c1', c2⟩ := ht.1.cells
    obtain ⟨d0, d1, d2⟩ := ht.2.1.cells
    have TT := Lib.hid ht; clear ht
    rcases (by omega : k = 0 ∨ k = 1 ∨ k = 2 ∨ k = 3) with rfl | rfl | rfl | rfl
    · go_wp2
      go_quiet ((go_at_call 12; exact Calls.quiet_of_same ((sameFloat_any a1 _ GA.out).mono fun _ _ h => ⟨h.1, h.2.symm⟩)))
      go_wp2
      exact ⟨⟨1, by omega, by rfl, TT.out.drewN _⟩, by decide⟩
    · go_wp2
      go_quiet ((go_at_call 12; exact Calls.quiet_of_same ((sameFloat_any b1 _ GB.out).mono fun _ _ h => ⟨h.1, h.2.symm⟩)))
      go_wp2
      exact ⟨⟨2, by omega, by rfl, TT.out.drewN _⟩, by decide⟩
    · go_wp2
      go_quiet ((go_at_call 12; exact Calls.quiet_of_same ((sameFloat_any c1 _ GC.out).mono fun _ _ h => ⟨h.1, h.2.symm⟩)))
      go_wp2
      exact ⟨⟨3, by omega, by rfl, TT.out.drewN _⟩, by decide⟩
    · go_wp2
      go_ret
      exact ⟨rfl, TT.out.2.2⟩
end Go.Proofs.Ytkfahacnanlnfaa
