/- Walks: the source of a code. -/
import Derived.Test.YtdijnjigamkhjaaGreatDoorDb
namespace Go.Proofs.YtdijnjigamkhjaaGreatDoor
open Go.RowKit

theorem u64_nat (x : Int) : ∃ z : Nat, IntKind.u64.wrap x = (z : Int) ∧ z < 18446744073709551616 := by
  refine ⟨(x % 18446744073709551616).toNat, ?_, by omega⟩
  rw [IntKind.wrap_u64]; omega
theorem Src.rehash {w : World} {D : Nat} {A : Option Addr} {n c at_ h z : Nat} (x : Src w D A n c at_ h) (hz : z < 18446744073709551616) : Src (w.setCell ⟨D, 2, none⟩ (.int .u64 (z : Int))).drew D A n c at_ z := by
  refine ⟨?_, fun k hk => ?_, x.hat, hz, x.hn⟩
  · have := x.s
    simp [World.drew, World.setCell, Array.getElem?_modify, this]
  · obtain ⟨b, off, y, e, hbD, hb, hc, h0, h1⟩ := x.other hk
    exact ⟨b, off, y, e, by simpa [World.drew, World.setCell] using hb, (World.cell?_of_block (w := w) (Below.heap_setCell w _ _ b hbD)).trans hc, h0, h1⟩
/-- What is between two bytes. -/
def Fh (w : World) (A : Option Addr) (n c : Nat) (wr : World) : Prop := ∃ h, Src wr w.heap.size A n c 0 h ∧ Below w.heap.size w wr
set_option maxHeartbeats 2000000 in
theorem l01From_any (A : Option Addr) (n c : Nat) (w : World) (hn : n ≤ 4096) (hc : Cd w A n) :
    Calls Tryz.prog 28 #[.slice A n c] w fun e w' => e = .returned (.pointer (some ⟨w.heap.size, 0, none⟩)) ∧ Fh w A n c w' := by
  have hn1 : (n : Int) ≤ 4096 := by omega
  have hw : IntKind.u64.wrap (9941 + (n : Int)) = ((9941 + n : Nat) : Int) := by rw [IntKind.wrap_u64]; omega
  have S0 : Fh w A n c (w.alloc (.cells #[.slice A n c, .int .i64 0, .int .u64 ((9941 + n : Nat) : Int)] 63)) :=
    ⟨9941 + n, ⟨heap_alloc_new w _, fun k hk => by
      obtain ⟨b, off, y, e, hb, h0, h1⟩ := hc k hk
      exact ⟨b, off, y, e, by simp; omega, ((Below.refl w.heap.size w).alloc (Nat.le_refl _) _).cell (p := ⟨b, off + k, none⟩) hb |>.trans h0, h1⟩, Nat.zero_le _, by omega, hn⟩, (Below.refl _ _).alloc (Nat.le_refl _) _⟩
  clear hc
  obtain ⟨z0, hz0⟩ : ∃ z0, 9941 + n = z0 := ⟨_, rfl⟩
  rw [hz0] at hw S0
  clear hz0
  have HS := Lib.hid S0
  clear S0
  go_enter Tryz.func28, Tryz.ntmps28
  go_wp2
  go_loopw [4] (fun i wr => ∃ k : Nat, k ≤ n ∧ i = .int .i64 k ∧ Fh w A n c wr) (fun i _ => n - (intOf i).toNat)
  case atStart => exact ⟨0, Nat.zero_le _, rfl, HS.out⟩
  case round =>
    obtain ⟨k, hk, rfl, h, hS, hB⟩ := hrel
    by_cases hlt : k < n
    · have l1 : (k : Int) < (n : Int) := by omega
      have l2 : (k : Int) < 4096 := by omega
      obtain ⟨b, off, y, rfl, hbD, hbl, hcy, y0, y1⟩ := hS.other hlt
      obtain ⟨c0, c1, c2⟩ := hS.cells
      have f2 := hS.frozen 2
      obtain ⟨z, hz, hzl⟩ := u64_nat (IntKind.u64.wrap (IntKind.u64.wrap ((h : Int) * 1099511628211) + y) + 31)
      have HS2 := Lib.hid hS
      have HB := Lib.hid hB
      have HL := Lib.hid hzl
      clear hS hB hzl
      go_wp2
      go_region
      go_wp2
      exact ⟨⟨k + 1, by omega, by go_num, z, HS2.out.rehash HL.out, (HB.out.setCell (Nat.le_refl _) _).drew⟩, by simp [intOf]; omega⟩
    · obtain rfl : k = n := by omega
      have HF := Lib.hid (show Fh w A k c wr from ⟨h, hS, hB⟩)
      clear hS hB
      go_wp2
      go_ret
      exact ⟨rfl, HF.out⟩
end Go.Proofs.YtdijnjigamkhjaaGreatDoor
