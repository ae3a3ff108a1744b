/- Walks: the drawn lists. -/
import Derived.Test.YtdijnjigamkhjaaGreatDoorDe
namespace Go.Proofs.YtdijnjigamkhjaaGreatDoor
open Go.RowKit

/-- The call draws a new list of at most 61 pulses from a code. -/
def DrawnL (w : World) (e : Ending) (w' : World) : Prop := ∃ v xs, e = .returned v ∧ Own w' w.heap.size v xs ∧ xs.length ≤ 61 ∧ Below w.heap.size w w'
theorem below_grown {w w1 w2 : World} {D : Nat} (hD : w.heap.size ≤ D) (hb : Below w.heap.size w w1) (hg : w1.grownBy w2 (some D)) : Below w.heap.size w w2 :=
  ⟨hg.os.trans hb.os, hg.tape.trans hb.tape, hg.output.trans hb.output, Nat.le_trans hb.size hg.size, fun k hk => (hg.block k (Nat.lt_of_lt_of_le hk hb.size) (by simp; omega)).trans (hb.block k hk)⟩
theorem drawText_any (A : Option Addr) (n c : Nat) (w : World) (hn : n ≤ 4096) (hc : Cd w A n) : Calls Tryz.prog 5 #[.slice A n c] w (DrawnL w) := by
  have K1 := Lib.hid (l01From_any A n c w hn hc)
  clear hc
  unfold DrawnL
  go_enter Tryz.func5, Tryz.ntmps5
  go_wp2_with fail
  refine K1.out.mono ?_
  rintro e w1 ⟨rfl, h, hS, hB⟩
  have K2 := Lib.hid (l05Spoil_any w.heap.size A n c 0 h w1 hS)
  have HB := Lib.hid hB
  clear hS hB K1
  unfold DrawsP at K2
  go_wp2_with fail
  refine K2.out.mono ?_
  rintro e w2 ⟨v, xs, a2, h2, rfl, hO, hl, _, hg⟩
  have HP := Lib.hid (show Own w2 w.heap.size v xs ∧ xs.length ≤ 61 ∧ Below w.heap.size w w2 from ⟨hO.mono HB.out.size, hl, below_grown (Nat.le_refl _) HB.out hg⟩)
  clear hO hl hg K2
  go_wp2
  go_ret
  exact ⟨_, xs, rfl, HP.out⟩
theorem drawShorten_any (A : Option Addr) (n c : Nat) (w : World) (hn : n ≤ 4096) (hc : Cd w A n) : Calls Tryz.prog 16 #[.slice A n c] w (DrawnL w) := by
  have K1 := Lib.hid (l01From_any A n c w hn hc)
  clear hc
  unfold DrawnL
  go_enter Tryz.func16, Tryz.ntmps16
  go_wp2_with fail
  refine K1.out.mono ?_
  rintro e w1 ⟨rfl, h, hS, hB⟩
  have K2 := Lib.hid (l05Spoil_any w.heap.size A n c 0 h w1 hS)
  have HB := Lib.hid hB
  clear hS hB K1
  unfold DrawsP at K2
  go_wp2_with fail
  refine K2.out.mono ?_
  rintro e w2 ⟨v, xs, a2, h2, rfl, hO, hl, _, hg⟩
  have HP := Lib.hid (show Own w2 w.heap.size v xs ∧ xs.length ≤ 61 ∧ Below w.heap.size w w2 from ⟨hO.mono HB.out.size, hl, below_grown (Nat.le_refl _) HB.out hg⟩)
  clear hO hl hg K2
  go_wp2
  go_ret
  exact ⟨_, xs, rfl, HP.out⟩
theorem drawEcho_any (A : Option Addr) (n c : Nat) (w : World) (hn : n ≤ 4096) (hc : Cd w A n) : Calls Tryz.prog 18 #[.slice A n c] w (DrawnL w) := by
  have K1 := Lib.hid (l01From_any A n c w hn hc)
  clear hc
  unfold DrawnL
  go_enter Tryz.func18, Tryz.ntmps18
  go_wp2_with fail
  refine K1.out.mono ?_
  rintro e w1 ⟨rfl, h, hS, hB⟩
  have K2 := Lib.hid (l05Spoil_any w.heap.size A n c 0 h w1 hS)
  have HB := Lib.hid hB
  clear hS hB K1
  unfold DrawsP at K2
  go_wp2_with fail
  refine K2.out.mono ?_
  rintro e w2 ⟨v, xs, a2, h2, rfl, hO, hl, _, hg⟩
  have HP := Lib.hid (show Own w2 w.heap.size v xs ∧ xs.length ≤ 61 ∧ Below w.heap.size w w2 from ⟨hO.mono HB.out.size, hl, below_grown (Nat.le_refl _) HB.out hg⟩)
  clear hO hl hg K2
  go_wp2
  go_ret
  exact ⟨_, xs, rfl, HP.out⟩
theorem drawInverse_any (A : Option Addr) (n c : Nat) (w : World) (hn : n ≤ 4096) (hc : Cd w A n) : Calls Tryz.prog 21 #[.slice A n c] w (DrawnL w) := by
  have K1 := Lib.hid (l01From_any A n c w hn hc)
  clear hc
  unfold DrawnL
  go_enter Tryz.func21, Tryz.ntmps21
  go_wp2_with fail
  refine K1.out.mono ?_
  rintro e w1 ⟨rfl, h, hS, hB⟩
  have K2 := Lib.hid (l05Spoil_any w.heap.size A n c 0 h w1 hS)
  have HB := Lib.hid hB
  clear hS hB K1
  unfold DrawsP at K2
  go_wp2_with fail
  refine K2.out.mono ?_
  rintro e w2 ⟨v, xs, a2, h2, rfl, hO, hl, _, hg⟩
  have HP := Lib.hid (show Own w2 w.heap.size v xs ∧ xs.length ≤ 61 ∧ Below w.heap.size w w2 from ⟨hO.mono HB.out.size, hl, below_grown (Nat.le_refl _) HB.out hg⟩)
  clear hO hl hg K2
  go_wp2
  go_ret
  exact ⟨_, xs, rfl, HP.out⟩
theorem drawAngles_any (A : Option Addr) (n c : Nat) (w : World) (hn : n ≤ 4096) (hc : Cd w A n) : Calls Tryz.prog 23 #[.slice A n c] w (DrawnL w) := by
  have K1 := Lib.hid (l01From_any A n c w hn hc)
  clear hc
  unfold DrawnL
  go_enter Tryz.func23, Tryz.ntmps23
  go_wp2_with fail
  refine K1.out.mono ?_
  rintro e w1 ⟨rfl, h, hS, hB⟩
  have K2 := Lib.hid (l05Spoil_any w.heap.size A n c 0 h w1 hS)
  have HB := Lib.hid hB
  clear hS hB K1
  unfold DrawsP at K2
  go_wp2_with fail
  refine K2.out.mono ?_
  rintro e w2 ⟨v, xs, a2, h2, rfl, hO, hl, _, hg⟩
  have HP := Lib.hid (show Own w2 w.heap.size v xs ∧ xs.length ≤ 61 ∧ Below w.heap.size w w2 from ⟨hO.mono HB.out.size, hl, below_grown (Nat.le_refl _) HB.out hg⟩)
  clear hO hl hg K2
  go_wp2
  go_ret
  exact ⟨_, xs, rfl, HP.out⟩
end Go.Proofs.YtdijnjigamkhjaaGreatDoor
