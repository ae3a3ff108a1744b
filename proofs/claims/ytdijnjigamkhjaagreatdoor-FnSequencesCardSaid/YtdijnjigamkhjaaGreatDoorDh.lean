/- Walks: a text is damaged. -/
import Derived.Test.YtdijnjigamkhjaaGreatDoorDc
import Derived.Test.YtdijnjigamkhjaaGreatDoorL
namespace Go.Proofs.YtdijnjigamkhjaaGreatDoor
open Go.RowKit

theorem itf_three (f : Nat → Nat) (h : Nat) : itf f 3 h = f (f (f h)) := rfl
theorem it_three (h : Nat) : it 3 h = st (st (st h)) := itf_three st h
theorem Src.drew {w : World} {D : Nat} {A : Option Addr} {n c at_ h : Nat} (x : Src w D A n c at_ h) : Src w.drew D A n c at_ h := ⟨x.s, x.code, x.hat, x.hh, x.hn⟩
/-- How many draws a damage takes. -/
def took (l : List UInt8) : Nat := if l = [] then 1 else 3
/-- What a damage leaves. -/
def DmPost (w : World) (D : Nat) (A : Option Addr) (n c at_ h : Nat) (l : List UInt8) (e : Ending) (w' : World) : Prop :=
  ∃ (l' : List UInt8) (at' h' : Nat), e = .returned (.string ⟨l'.toArray⟩) ∧ l'.length ≤ l.length + 1 ∧ Src w' D A n c at' h' ∧ w.grownBy w' (some D) ∧ (at_ = n → at' = n ∧ h' = it (took l) h) ∧ (at_ < n → at_ < at')
theorem signs_at (w : World) (k : Nat) (hk : k < 12) : ∃ b : UInt8, (w.alloc (.cells #[.string ⟨#[48]⟩, .string ⟨#[49]⟩, .string ⟨#[55]⟩, .string ⟨#[102]⟩, .string ⟨#[120]⟩, .string ⟨#[45]⟩, .string ⟨#[44]⟩, .string ⟨#[32]⟩, .string ⟨#[43]⟩, .string ⟨#[121]⟩, .string ⟨#[103]⟩, .string ⟨#[10]⟩] 9)).cell? ⟨w.heap.size, k, none⟩ = some (.string ⟨[b].toArray⟩) := by
  have hP := heap_alloc_new w (.cells #[.string ⟨#[48]⟩, .string ⟨#[49]⟩, .string ⟨#[55]⟩, .string ⟨#[102]⟩, .string ⟨#[120]⟩, .string ⟨#[45]⟩, .string ⟨#[44]⟩, .string ⟨#[32]⟩, .string ⟨#[43]⟩, .string ⟨#[121]⟩, .string ⟨#[103]⟩, .string ⟨#[10]⟩] 9)
  simp only [World.cell?, hP]
  match k, hk with
  | 0, _ => exact ⟨48, rfl⟩
  | 1, _ => exact ⟨49, rfl⟩
  | 2, _ => exact ⟨55, rfl⟩
  | 3, _ => exact ⟨102, rfl⟩
  | 4, _ => exact ⟨120, rfl⟩
  | 5, _ => exact ⟨45, rfl⟩
  | 6, _ => exact ⟨44, rfl⟩
  | 7, _ => exact ⟨32, rfl⟩
  | 8, _ => exact ⟨43, rfl⟩
  | 9, _ => exact ⟨121, rfl⟩
  | 10, _ => exact ⟨103, rfl⟩
  | 11, _ => exact ⟨10, rfl⟩
set_option maxRecDepth 100000 in
set_option maxHeartbeats 4000000 in
theorem l01Damage_any (D : Nat) (A : Option Addr) (n c at_ h : Nat) (l : List UInt8) (w : World) (hl : l.length ≤ 549755813888) (hS : Src w D A n c at_ h) :
    Calls Tryz.prog 44 #[.pointer (some ⟨D, 0, none⟩), .string ⟨l.toArray⟩] w (DmPost w D A n c at_ h l) := by
  have hD := hS.lt
  have hsg := Lib.hid (signs_at w)
  have hsz := size_list l
  have K1 := Lib.hid (l01Next_any D A n c at_ h 12 (w.alloc (.cells #[.string ⟨#[48]⟩, .string ⟨#[49]⟩, .string ⟨#[55]⟩, .string ⟨#[102]⟩, .string ⟨#[120]⟩, .string ⟨#[45]⟩, .string ⟨#[44]⟩, .string ⟨#[32]⟩, .string ⟨#[43]⟩, .string ⟨#[121]⟩, .string ⟨#[103]⟩, .string ⟨#[10]⟩] 9)) (by omega) (by omega) (hS.alloc _))
  have hhi := fun (k : Nat) (hk : k ≤ l.length) (W : World) => sl_high (l := l) hk W
  have hlo := fun (k : Nat) (hk : k ≤ l.length) (W : World) => sl_low (l := l) hk W
  clear hS
  obtain ⟨S, hSS⟩ : ∃ S, (⟨l.toArray⟩ : ByteArray) = S := ⟨_, rfl⟩
  rw [hSS] at hsz ⊢
  simp only [hSS] at hhi hlo
  clear hSS
  have HHI := Lib.hid hhi
  have HLO := Lib.hid hlo
  clear hhi hlo
  unfold DmPost
  go_enter Tryz.func44, Tryz.ntmps44
  go_wp2_with fail
  refine K1.out.mono ?_
  rintro e w1 ⟨x, a1, rfl, x0, x1, hs1, _, hp1, hq1, hg1⟩
  obtain ⟨k, rfl⟩ : ∃ k : Nat, x = (k : Int) := ⟨x.toNat, by omega⟩
  obtain ⟨b, hb⟩ := hsg.out k (by omega)
  have c1 : w1.cell? ⟨w.heap.size, k, none⟩ = some (.string ⟨[b].toArray⟩) := (World.cell?_of_block (hg1.block w.heap.size (by simp) (by simp; omega))).trans hb
  have HS1 := Lib.hid hs1
  have HG1 := Lib.hid (grown_trans (World.grownBy_alloc w _ (some D)) hg1)
  have HP1 := Lib.hid hp1
  have HQ1 := Lib.hid hq1
  clear hs1 hp1 hq1 hg1 hb K1
  obtain ⟨C, hC⟩ : ∃ C, (⟨[b].toArray⟩ : ByteArray) = C := ⟨_, rfl⟩
  have HC := Lib.hid hC
  rw [hC] at c1
  clear hC
  by_cases h0 : l.length = 0
  · have l0 : (l.length : Int) = 0 := by omega
    have HL := Lib.hid (List.length_eq_zero_iff.1 h0)
    clear h0
    go_wp2
    go_ret
    exact ⟨[b], a1, st h, by rw [HC.out]; rfl, by simp, HS1.out, HG1.out, fun e => ⟨(HP1.out e).1, by unfold took; rw [if_pos HL.out, it_one]⟩, HQ1.out⟩
  · have l0 : ¬ (l.length : Int) = 0 := by omega
    have hl1 : (l.length : Int) ≤ 549755813888 := by omega
    have hl0 : (0 : Int) < (l.length : Int) := by omega
    have HN := Lib.hid (show took l = 3 from by unfold took; rw [if_neg (fun e => h0 (by rw [e]; rfl))])
    have K2 := Lib.hid (l01Next_any D A n c a1 (st h) (l.length : Int) w1 (by omega) (by omega) HS1.out)
    clear h0
    go_wp2_with fail
    refine K2.out.mono ?_
    rintro e w2 ⟨x2, a2, rfl, x20, x21, hs2, _, hp2, hq2, hg2⟩
    obtain ⟨k2, rfl⟩ : ∃ k2 : Nat, x2 = (k2 : Int) := ⟨x2.toNat, by omega⟩
    have K3 := Lib.hid (l01Next_any D A n c a2 (st (st h)) 3 w2 (by omega) (by omega) hs2)
    have HP2 := Lib.hid hp2
    have HQ2 := Lib.hid hq2
    have HG2 := Lib.hid (grown_trans HG1.out hg2)
    have HM2 := Lib.hid hs2.hat
    clear hs2 hp2 hq2 hg2 K2
    go_wp2_with fail
    refine K3.out.mono ?_
    rintro e w3 ⟨x3, a3, rfl, x30, x31, hs3, hm3, hp3, hq3, hg3⟩
    have HD := Lib.hid (show ∀ l' : List UInt8, l'.length ≤ l.length + 1 → DmPost w D A n c at_ h l (.returned (.string ⟨l'.toArray⟩)) w3.drew from fun l' hl' =>
      ⟨l', a3, _, rfl, hl', hs3.drew, grown_drew (grown_trans HG2.out hg3), fun e => ⟨(hp3 (HP2.out (HP1.out e).1).1).1, by rw [HN.out, it_three]⟩, fun e => by
        have := HQ1.out e
        have g1 := HS1.out.hat
        by_cases e1 : a1 = n
        · have := (hp3 (HP2.out e1).1).1; omega
        · have := HQ2.out (by omega); omega⟩)
    clear hs3 hp3 hq3 hg3 hm3 K3
    have hk2 : k2 < l.length := by omega
    have hb0 : (0 : Int) ≤ (k2 : Int) := by omega
    have e1 : ∀ W : World, _ := HHI.out k2 (by omega)
    have e2 : ∀ W : World, (Instr.slice 9 (.string S) (some (.int .i64 ((k2 : Int) + 1))) none none).run Tryz.prog W = .ok (.string ⟨(l.drop (k2 + 1)).toArray⟩) W := fun W => by
      have := HLO.out (k2 + 1) (by omega) W
      simpa only [Int.natCast_add, Int.natCast_one] using this
    have e3 : ∀ W : World, _ := HLO.out k2 (by omega)
    have a1 : ∀ W : World, _ := fun W => add_str W (l.take k2) [b] (by simp; omega)
    have a2 : ∀ W : World, _ := fun W => add_str W (l.take k2 ++ [b]) (l.drop (k2 + 1)) (by simp; omega)
    have a3' : ∀ W : World, _ := fun W => add_str W (l.take k2) (l.drop (k2 + 1)) (by simp; omega)
    have a4 : ∀ W : World, _ := fun W => add_str W (l.take k2 ++ [b]) (l.drop k2) (by simp; omega)
    have L1 := Lib.hid (show (l.take k2 ++ [b] ++ l.drop (k2 + 1)).length ≤ l.length + 1 ∧ (l.take k2 ++ l.drop (k2 + 1)).length ≤ l.length + 1 ∧ (l.take k2 ++ [b] ++ l.drop k2).length ≤ l.length + 1 by simp; omega)
    rw [HC.out] at a1
    generalize l.take k2 ++ [b] ++ l.drop (k2 + 1) = r1 at a1 a2 a3' a4 L1
    generalize l.take k2 ++ l.drop (k2 + 1) = r2 at a1 a2 a3' a4 L1
    generalize l.take k2 ++ [b] ++ l.drop k2 = r3 at a1 a2 a3' a4 L1
    generalize (⟨(l.take k2 ++ [b]).toArray⟩ : ByteArray) = B1 at a1 a2 a3' a4
    generalize (⟨(l.take k2).toArray⟩ : ByteArray) = B2 at a1 a2 a3' a4 e1 e2 e3
    generalize (⟨(l.drop (k2 + 1)).toArray⟩ : ByteArray) = B3 at a1 a2 a3' a4 e1 e2 e3
    generalize (⟨(l.drop k2).toArray⟩ : ByteArray) = B4 at a1 a2 a3' a4 e1 e2 e3
    unfold DmPost at HD
    by_cases y0 : x3 = 0
    · subst y0
      go_wp2
      go_region
      go_wp2
      go_ret
      exact HD.out r1 L1.out.1
    · by_cases y1 : x3 = 1
      · subst y1
        clear y0
        go_wp2
        go_region
        go_wp2
        go_ret
        exact HD.out r2 L1.out.2.1
      · go_wp2
        go_region
        go_wp2
        go_ret
        exact HD.out r3 L1.out.2.2
end Go.Proofs.YtdijnjigamkhjaaGreatDoor
