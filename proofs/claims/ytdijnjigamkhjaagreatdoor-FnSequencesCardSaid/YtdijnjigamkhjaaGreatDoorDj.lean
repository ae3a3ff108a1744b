/- Walks: lists that are alike. -/
import Derived.Test.YtdijnjigamkhjaaGreatDoorAn
import Derived.Test.YtdijnjigamkhjaaGreatDoorDb
namespace Go.Proofs.YtdijnjigamkhjaaGreatDoor
open Go.RowKit

theorem specIs_any (A : Option Addr) (c : Nat) (xs : List Pu) (w : World) (hn : xs.length ≤ 1048576) (hr : Rd w A xs) :
    Calls Tryz.prog 9 #[.slice A xs.length c] w fun e w' => e = .returned (.bool (isSeq xs)) ∧ w = w' := by
  have K := Lib.hid (l05Is_any A c xs w hn hr)
  clear hr
  go_enter Tryz.func9, Tryz.ntmps9
  go_wp2_with fail
  refine K.out.mono ?_
  rintro e w1 ⟨rfl, rfl⟩
  go_wp2
  go_ret
  exact ⟨rfl, rfl⟩
set_option maxRecDepth 100000 in
set_option maxHeartbeats 2000000 in
theorem pulses5_same (A A' : Option Addr) (c c' : Nat) (xs : List Pu) (w : World) (hn : xs.length ≤ 1048576) (hr : Rd w A xs) (hr' : Rd w A' xs) :
    Calls Tryz.prog 12 #[.slice A xs.length c, .slice A' xs.length c'] w fun e w' => e = .returned (.bool true) ∧ Below w.heap.size w w' := by
  have HR := Lib.hid hr
  have HR' := Lib.hid hr'
  clear hr hr'
  go_enter Tryz.func12, Tryz.ntmps12
  go_wp2
  go_loopw [5] (fun i wr => ∃ k : Nat, k ≤ xs.length ∧ i = .int .i64 k ∧ Below w.heap.size w wr) (fun i _ => xs.length - (intOf i).toNat)
  case atStart => exact ⟨0, Nat.zero_le _, rfl, Below.refl _ _⟩
  case round =>
    obtain ⟨k, hk, rfl, hB⟩ := hrel
    by_cases hlt : k < xs.length
    · obtain ⟨p, hp⟩ : ∃ p, xs[k]? = some p := ⟨_, List.getElem?_eq_getElem hlt⟩
      have l1 : (k : Int) < (xs.length : Int) := by omega
      obtain ⟨b, off, rfl, hbl, c0, c1, c2⟩ := HR.out k p hp
      obtain ⟨b', off', rfl, hbl', d0, d1, d2⟩ := HR'.out k p hp
      have hb1 := hB.cell (p := ⟨b, off + k * 3, none⟩) hbl
      have hb2 := hB.cell (p := ⟨b, off + k * 3 + 1, none⟩) hbl
      have hb3 := hB.cell (p := ⟨b, off + k * 3 + 2, none⟩) hbl
      have hb4 := hB.cell (p := ⟨b', off' + k * 3, none⟩) hbl'
      have hb5 := hB.cell (p := ⟨b', off' + k * 3 + 1, none⟩) hbl'
      have hb6 := hB.cell (p := ⟨b', off' + k * 3 + 2, none⟩) hbl'
      rw [c0] at hb1; rw [c1] at hb2; rw [c2] at hb3; rw [d0] at hb4; rw [d1] at hb5; rw [d2] at hb6
      have HB := Lib.hid hB
      clear hB c0 c1 c2 d0 d1 d2 hp
      go_wp2
      go_region
      go_wp2
      exact ⟨⟨k + 1, by omega, by go_num, HB.out.drew⟩, by simp [intOf]; omega⟩
    · obtain rfl : k = xs.length := by omega
      have HB := Lib.hid hB
      clear hB
      go_wp2
      go_ret
      exact ⟨rfl, HB.out⟩
set_option maxRecDepth 100000 in
set_option maxHeartbeats 2000000 in
theorem likeInts_same (A A' : Option Addr) (c c' : Nat) (xs : List Int) (w : World) (hn : xs.length ≤ 1048576) (hr : IRd w A xs) (hr' : IRd w A' xs) :
    Calls Tryz.prog 15 #[.slice A xs.length c, .slice A' xs.length c'] w fun e w' => e = .returned (.bool true) ∧ Below w.heap.size w w' := by
  have HR := Lib.hid hr
  have HR' := Lib.hid hr'
  clear hr hr'
  go_enter Tryz.func15, Tryz.ntmps15
  go_wp2
  go_loopw [5] (fun i wr => ∃ k : Nat, k ≤ xs.length ∧ i = .int .i64 k ∧ Below w.heap.size w wr) (fun i _ => xs.length - (intOf i).toNat)
  case atStart => exact ⟨0, Nat.zero_le _, rfl, Below.refl _ _⟩
  case round =>
    obtain ⟨k, hk, rfl, hB⟩ := hrel
    by_cases hlt : k < xs.length
    · obtain ⟨p, hp⟩ : ∃ p, xs[k]? = some p := ⟨_, List.getElem?_eq_getElem hlt⟩
      have l1 : (k : Int) < (xs.length : Int) := by omega
      obtain ⟨b, rfl, hbl, c0⟩ := HR.out k p hp
      obtain ⟨b', rfl, hbl', d0⟩ := HR'.out k p hp
      have hb1 := hB.cell (p := ⟨b, k, none⟩) hbl
      have hb4 := hB.cell (p := ⟨b', k, none⟩) hbl'
      rw [c0] at hb1; rw [d0] at hb4
      have HB := Lib.hid hB
      clear hB c0 d0 hp
      go_wp2
      go_region
      go_wp2
      exact ⟨⟨k + 1, by omega, by go_num, HB.out.drew⟩, by simp [intOf]; omega⟩
    · obtain rfl : k = xs.length := by omega
      have HB := Lib.hid hB
      clear hB
      go_wp2
      go_ret
      exact ⟨rfl, HB.out⟩
theorem big_any (A : Option Addr) (n c : Nat) (w : World) : Calls Tryz.prog 4 #[.slice A n c] w fun e w' => e = .returned (.bool (decide ((4096 : Int) < (n : Int)))) ∧ w = w' := by
  go_enter Tryz.func4, Tryz.ntmps4
  go_wp2
  go_ret
  exact ⟨rfl, rfl⟩
theorem Cd.below {w w' : World} {A : Option Addr} {n : Nat} (h : Cd w A n) (hb : Below w.heap.size w w') : Cd w' A n := by
  intro k hk
  obtain ⟨b, off, y, e, hlt, hc, h0⟩ := h k hk
  exact ⟨b, off, y, e, Nat.lt_of_lt_of_le hlt hb.size, (hb.cell (p := ⟨b, _, none⟩) hlt).trans hc, h0⟩
end Go.Proofs.YtdijnjigamkhjaaGreatDoor
