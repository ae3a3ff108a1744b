/- Walks: the source of draws. -/
import Derived.Test.YtdijnjigamkhjaaGreatDoorC
import Derived.Test.YtdijnjigamkhjaaGreatDoorLa
import Derived.Test.YtdijnjigamkhjaaGreatDoorH
import Derived.Deep.RegionHeld3
import Derived.Laws.Bits64b
namespace Go.Proofs.YtdijnjigamkhjaaGreatDoor
open Go.RowKit

/-- The code's bytes can be read. -/
def Cd (w : World) (A : Option Addr) (n : Nat) : Prop := ∀ k, k < n → ∃ b off x, A = some ⟨b, off, none⟩ ∧ b < w.heap.size ∧ w.cell? ⟨b, off + k, none⟩ = some (.int .u8 x) ∧ 0 ≤ x ∧ x < 256
/-- Block D is a source over the code. -/
structure Src (w : World) (D : Nat) (A : Option Addr) (n c at_ h : Nat) : Prop where
  s : w.heap[D]? = some (.cells #[.slice A n c, .int .i64 at_, .int .u64 h] 63 (0, 0))
  code : Cd w A n
  hat : at_ ≤ n
  hh : h < 18446744073709551616
  hn : n ≤ 4096
section
variable {w w' : World} {D : Nat} {A : Option Addr} {n c at_ h : Nat}
theorem Src.cells (x : Src w D A n c at_ h) : w.cell? ⟨D, 0, none⟩ = some (.slice A n c) ∧ w.cell? ⟨D, 1, none⟩ = some (.int .i64 at_) ∧ w.cell? ⟨D, 2, none⟩ = some (.int .u64 h) := by
  have := x.s
  simp [World.cell?, this]
theorem Src.frozen (x : Src w D A n c at_ h) (i : Nat) : w.frozen? ⟨D, i, none⟩ = false := by
  have := x.s
  simp [World.frozen?, this]
theorem Src.lt (x : Src w D A n c at_ h) : D < w.heap.size := (Array.getElem?_eq_some_iff.1 x.s).1
/-- The code lies elsewhere. -/
theorem Src.other (x : Src w D A n c at_ h) {k : Nat} (hk : k < n) : ∃ b off y, A = some ⟨b, off, none⟩ ∧ b ≠ D ∧ b < w.heap.size ∧ w.cell? ⟨b, off + k, none⟩ = some (.int .u8 y) ∧ 0 ≤ y ∧ y < 256 := by
  obtain ⟨b, off, y, e, hb, hc, h0, h1⟩ := x.code k hk
  refine ⟨b, off, y, e, ?_, hb, hc, h0, h1⟩
  rintro rfl
  have := x.s
  simp only [World.cell?, this] at hc
  match off + k, hc with
  | 0, hc => simp at hc
  | 1, hc => simp at hc
  | 2, hc => simp at hc
  | _ + 3, hc => simp at hc
end
theorem st_word {h : Nat} : IntKind.u64.wrap (IntKind.u64.wrap ((h : Int) * 6364136223846793005) + 1442695040888963407) = ((st h : Nat) : Int) := by
  rw [IntKind.wrap_u64, IntKind.wrap_u64]
  unfold st
  omega
theorem st_top (h : Nat) : bits BinOp.and IntKind.u64 (((st h : Nat) : Int) / 8589934592) 2147483647 = ((st h / 8589934592 : Nat) : Int) := by
  have hl := st_lt h
  generalize st h = z at *
  have e : ((z : Nat) : Int) / 8589934592 = ((z / 8589934592 : Nat) : Int) := by omega
  rw [e, show (2147483647 : Int) = ((2147483647 : Nat) : Int) from rfl, bits_and_u64_nat _ _ (by omega) (by decide)]
  have := Nat.and_two_pow_sub_one_eq_mod (z / 8589934592) 31
  rw [show (2147483647 : Nat) = 2 ^ 31 - 1 from rfl, this]
  congr 1
  exact Nat.mod_eq_of_lt (by omega)
theorem top_lt (h : Nat) : st h / 8589934592 < 2147483648 := by have := st_lt h; omega
/-- The source one step on. -/
theorem Src.step {w : World} {D : Nat} {A : Option Addr} {n c at_ h : Nat} (x : Src w D A n c at_ h) {w' : World} {at' : Nat} (hat : at' ≤ n) (hs : w'.heap[D]? = some (.cells #[.slice A n c, .int .i64 at', .int .u64 (st h)] 63 (0, 0))) (hg : w.grownBy w' (some D)) : Src w' D A n c at' (st h) := by
  refine ⟨hs, fun k hk => ?_, hat, st_lt h, x.hn⟩
  obtain ⟨b, off, y, e, hbD, hb, hc, h0, h1⟩ := x.other hk
  exact ⟨b, off, y, e, Nat.lt_of_lt_of_le hb hg.size, (World.cell?_of_block (hg.block b hb (by simpa using hbD))).trans hc, h0, h1⟩
theorem grown_set {w w' : World} {D : Nat} (h : w.grownBy w' (some D)) (i : Nat) (u : Value) : w.grownBy (w'.setCell ⟨D, i, none⟩ u) (some D) :=
  ⟨h.os, h.tape, h.output, by have := h.size; simpa [World.setCell] using this, fun k hk hne => (Below.heap_setCell _ _ _ _ (by simpa using hne)).trans (h.block k hk hne)⟩
theorem grown_drew {w w' : World} {D : Option Nat} (h : w.grownBy w' D) : w.grownBy w'.drew D := ⟨h.os, h.tape, h.output, h.size, h.block⟩
set_option maxHeartbeats 2000000 in
theorem l01Next_any (D : Nat) (A : Option Addr) (n c at_ h : Nat) (m : Int) (w : World) (h1 : 1 ≤ m) (h2 : m ≤ 1099511627776) (hS : Src w D A n c at_ h) :
    Calls Tryz.prog 43 #[.pointer (some ⟨D, 0, none⟩), .int .i64 m] w fun e w' => ∃ x at', e = .returned (.int .i64 x) ∧ 0 ≤ x ∧ x < m ∧ Src w' D A n c at' (st h) ∧ at_ ≤ at' ∧ (at_ = n → at' = n ∧ x = ((st h / 8589934592 : Nat) : Int) % m) ∧ (at_ < n → at_ < at') ∧ w.grownBy w' (some D) := by
  obtain ⟨c0, c1, c2⟩ := hS.cells
  have f0 := hS.frozen 0
  have f1 := hS.frozen 1
  have f2 := hS.frozen 2
  have e1 : ¬ m < 1 := by omega
  have HS := Lib.hid hS
  go_enter Tryz.func43, Tryz.ntmps43
  have hv := st_word (h := h)
  have hb := st_top h
  have ht := top_lt h
  obtain ⟨z, hz⟩ : ∃ z, st h = z := ⟨_, rfl⟩
  obtain ⟨T, hT⟩ : ∃ T, z / 8589934592 = T := ⟨_, rfl⟩
  rw [hz] at hv hb ht
  rw [hT] at hb ht
  have hn' : (n : Int) ≤ 4096 := by have := hS.hn; omega
  have T0 : (0 : Int) ≤ (T : Int) := by omega
  have T1 : (T : Int) < 2147483648 := by omega
  have HZ := Lib.hid hz
  have HT := Lib.hid hT
  clear hz hT ht hS
  by_cases hlt : at_ < n
  · have l1 : (at_ : Int) < (n : Int) := by omega
    obtain ⟨b, off, y, rfl, hbD, hbl, hc, y0, y1⟩ := HS.out.other hlt
    go_wp2
    go_region
    go_wp2
    go_region
    go_wp2
    go_ret
    have hg : w.grownBy ((w.setCell ⟨D, 2, none⟩ (.int .u64 (z : Int))).setCell ⟨D, 1, none⟩ (.int .i64 ((at_ : Int) + 1))).drew.drew (some D) := grown_drew (grown_drew (grown_set (grown_set (World.grownBy.refl _ _) _ _) _ _))
    have hs : ((w.setCell ⟨D, 2, none⟩ (.int .u64 (z : Int))).setCell ⟨D, 1, none⟩ (.int .i64 ((at_ : Int) + 1))).drew.drew.heap[D]? = some (.cells #[.slice (some ⟨b, off, none⟩) n c, .int .i64 ((at_ + 1 : Nat) : Int), .int .u64 (st h)] 63 (0, 0)) := by
      rw [HZ.out]
      have := HS.out.s
      simp [World.drew, World.setCell, Array.getElem?_modify, this]
    exact ⟨_, at_ + 1, rfl, Int.emod_nonneg _ (by omega), Int.emod_lt_of_pos _ (by omega), HS.out.step hlt hs hg, by omega, fun e => absurd e (by omega), fun _ => by omega, hg⟩
  · have l1 : ¬ (at_ : Int) < (n : Int) := by omega
    go_wp2
    go_region
    go_wp2
    go_ret
    have hx := HS.out.hat
    have hg : w.grownBy (w.setCell ⟨D, 2, none⟩ (.int .u64 (z : Int))).drew (some D) := grown_drew (grown_set (World.grownBy.refl _ _) _ _)
    have hs : (w.setCell ⟨D, 2, none⟩ (.int .u64 (z : Int))).drew.heap[D]? = some (.cells #[.slice A n c, .int .i64 at_, .int .u64 (st h)] 63 (0, 0)) := by
      rw [HZ.out]
      have := HS.out.s
      simp [World.drew, World.setCell, Array.getElem?_modify, this]
    refine ⟨_, at_, rfl, Int.emod_nonneg _ (by omega), Int.emod_lt_of_pos _ (by omega), HS.out.step hx hs hg, Nat.le_refl _, fun e => ⟨e, ?_⟩, fun hl => absurd hl hlt, hg⟩
    rw [HZ.out, HT.out]
end Go.Proofs.YtdijnjigamkhjaaGreatDoor
