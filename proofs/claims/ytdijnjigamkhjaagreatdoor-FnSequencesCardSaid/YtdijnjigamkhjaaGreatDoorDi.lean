/- Walks: the drawn text. -/
import Derived.Test.YtdijnjigamkhjaaGreatDoorDf
import Derived.Test.YtdijnjigamkhjaaGreatDoorDh
import Derived.Test.YtdijnjigamkhjaaGreatDoorLb
namespace Go.Proofs.YtdijnjigamkhjaaGreatDoor
open Go.RowKit

/-- What is left to do, by the source. -/
noncomputable def mea (n a h : Nat) : Nat := if a < n then (n - a) + 274877906950 else runs h
noncomputable def msW (D n : Nat) (w : World) : Nat := match w.cell? ⟨D, 1, none⟩, w.cell? ⟨D, 2, none⟩ with
  | some (.int _ a), some (.int _ h) => mea n a.toNat h.toNat
  | _, _ => 0
theorem msW_eq {w : World} {D : Nat} {A : Option Addr} {n c a h : Nat} (x : Src w D A n c a h) : msW D n w = mea n a h := by
  obtain ⟨_, c1, c2⟩ := x.cells
  unfold msW
  rw [c1, c2]
  simp
/-- How long the text may be. -/
def Ph (n : Nat) (l : List UInt8) (a h : Nat) : Prop := (a < n ∧ l.length ≤ 40 + a) ∨ (a = n ∧ l.length + runs h ≤ 274877912000)
theorem Ph.len {n a h : Nat} {l : List UInt8} (hn : n ≤ 4096) (x : Ph n l a h) : l.length ≤ 274877912000 := by
  rcases x with ⟨h1, h2⟩ | ⟨h1, h2⟩ <;> omega
/-- One damage on. -/
theorem Ph.next {n a h a1 a2 h2 : Nat} {l l' : List UInt8} (hn : n ≤ 4096) (hh : h < 18446744073709551616) (hh2 : h2 < 18446744073709551616) (x : Ph n l a h)
    (ha2 : a2 ≤ n) (q0 : a < n → a < a1) (q2 : a1 ≤ n) (q3 : a1 = n → a2 = n) (q4 : a1 < n → a1 < a2) (r1 : a = n → a1 = n) (r2 : a = n → hit (it 1 h) ∧ h2 = it (took l) (it 1 h)) (hl : l'.length ≤ l.length + 1) :
    Ph n l' a2 h2 ∧ mea n a2 h2 < mea n a h := by
  rcases x with ⟨h1, h3⟩ | ⟨h1, h3⟩
  · have g0 := q0 h1
    have hr := runs_le hh2
    have ga : a < a2 := by
      by_cases e : a1 = n
      · have := q3 e; omega
      · have := q4 (by omega); omega
    refine ⟨?_, ?_⟩
    · by_cases e : a2 < n
      · exact .inl ⟨e, by omega⟩
      · exact .inr ⟨by omega, by omega⟩
    · unfold mea
      rw [if_pos h1]
      split <;> omega
  · obtain ⟨ht, rfl⟩ := r2 h1
    have e2 : a2 = n := q3 (r1 h1)
    have hj : 1 + took l = 2 ∨ 1 + took l = 4 := by unfold took; split <;> omega
    have hs := runs_step hh ht hj
    rw [it_add] at hs
    refine ⟨.inr ⟨e2, by omega⟩, ?_⟩
    unfold mea
    rw [if_neg (by omega), if_neg (by omega)]
    omega
/-- The call draws a text. -/
def DrawnT (w : World) (e : Ending) (w' : World) : Prop := ∃ l : List UInt8, e = .returned (.string ⟨l.toArray⟩) ∧ l.length ≤ 1099511627776 ∧ Below w.heap.size w w'
set_option maxRecDepth 100000 in
set_option maxHeartbeats 4000000 in
theorem drawParse_any (A : Option Addr) (n c : Nat) (w : World) (hn : n ≤ 4096) (hc : Cd w A n) : Calls Tryz.prog 25 #[.slice A n c] w (DrawnT w) := by
  have K1 := Lib.hid (l01From_any A n c w hn hc)
  clear hc
  unfold DrawnT
  go_enter Tryz.func25, Tryz.ntmps25
  go_wp2_with fail
  refine K1.out.mono ?_
  rintro e w1 ⟨rfl, h, hS, hB⟩
  have K2 := Lib.hid (l05Draw_any w.heap.size A n c 0 h 8 w1 (by omega) hS)
  have HB := Lib.hid hB
  clear hS hB K1
  unfold DrawsO at K2
  go_wp2_with fail
  refine K2.out.mono ?_
  rintro e w2 ⟨v, xs, a2, h2, rfl, hO, ⟨hl, hok⟩, hs, hg⟩
  obtain ⟨Av, cp, hv, hr⟩ := hO.rd
  subst hv
  have K3 := Lib.hid (l05Text_any Av cp xs w2 (by omega) hok hr)
  have HT := Lib.hid (seqT_len xs hok)
  have HS2 := Lib.hid hs
  have HB2 := Lib.hid (below_grown (Nat.le_refl _) HB.out hg)
  clear hO hok hr hs hg K2 HB
  go_wp2_with fail
  refine K3.out.mono ?_
  rintro e w3 ⟨rfl, b3⟩
  have HS3 := Lib.hid (show Src w3 w.heap.size A n c a2 h2 from HS2.out.far ⟨b3.os, b3.tape, b3.output, b3.size, fun k hk _ => b3.block k hk⟩ ((b3.block _ HS2.out.lt).trans HS2.out.s) HS2.out.hat HS2.out.hh)
  have HB3 := Lib.hid (HB2.out.trans (b3.mono HB2.out.size))
  have HP3 := Lib.hid (show Ph n (seqT xs) a2 h2 from by
    have := HT.out
    have hr := runs_le HS2.out.hh
    have ha := HS2.out.hat
    by_cases e : a2 < n
    · exact .inl ⟨e, by omega⟩
    · exact .inr ⟨by omega, by omega⟩)
  clear b3 K3 HS2 HB2
  generalize seqT xs = l0 at *
  clear HT
  go_wp2
  go_loopw [4] (fun t wr => ∃ (l : List UInt8) (a h : Nat), t = .string ⟨l.toArray⟩ ∧ Ph n l a h ∧ Src wr w.heap.size A n c a h ∧ Below w.heap.size w wr) (fun _ wr => msW w.heap.size n wr)
  case atStart => exact ⟨l0, a2, h2, rfl, HP3.out, HS3.out, HB3.out⟩
  case round =>
    obtain ⟨l, a, h, rfl, hP, hS, hB⟩ := hrel
    clear HP3 HS3 HB3
    have HP := Lib.hid hP
    have HS := Lib.hid hS
    have HB := Lib.hid hB
    have HL := Lib.hid (hP.len hn)
    have KN := Lib.hid (l01Next_any w.heap.size A n c a h 3 wr (by omega) (by omega) hS)
    have HM := Lib.hid (msW_eq hS)
    clear hP hS hB
    go_wp2_with fail
    refine KN.out.mono ?_
    rintro e w4 ⟨x, a1, rfl, x0, x1, hs4, _, hp4, hq4, hg4⟩
    have HS4 := Lib.hid hs4
    have HP4 := Lib.hid hp4
    have HQ4 := Lib.hid hq4
    have HB4 := Lib.hid (below_grown (Nat.le_refl _) HB.out hg4)
    clear hs4 hp4 hq4 hg4 KN
    by_cases hx : x = 0
    · subst hx
      have KD := Lib.hid (l01Damage_any w.heap.size A n c a1 (st h) l w4 (by have := HL.out; omega) HS4.out)
      unfold DmPost at KD
      go_wp2_with fail
      refine KD.out.mono ?_
      rintro e w5 ⟨l', a5, h5, rfl, hl5, hs5, hg5, hp5, hq5⟩
      have HR := Lib.hid (HP.out.next hn HS.out.hh hs5.hh hs5.hat HQ4.out HS4.out.hat (fun e => (hp5 e).1) hq5 (fun e => (HP4.out e).1) (fun e => ⟨by
        have := (HP4.out e).2
        rw [it_one]
        unfold hit
        omega, by rw [it_one]; exact (hp5 (HP4.out e).1).2⟩) hl5)
      have HM5 := Lib.hid (msW_eq hs5)
      have HF := Lib.hid (show ∃ (l : List UInt8) (a h : Nat), (Value.string ⟨l'.toArray⟩ = .string ⟨l.toArray⟩) ∧ Ph n l a h ∧ Src w5 w.heap.size A n c a h ∧ Below w.heap.size w w5 from ⟨l', a5, h5, rfl, HR.out.1, hs5, below_grown (Nat.le_refl _) HB4.out hg5⟩)
      clear hl5 hs5 hg5 hp5 hq5 KD
      go_wp2
      exact ⟨HF.out, by rw [HM.out, HM5.out]; exact HR.out.2⟩
    · have HF := Lib.hid (show l.length ≤ 1099511627776 by have := HL.out; omega)
      go_wp2
      go_ret
      exact ⟨l, rfl, HF.out, HB4.out⟩
end Go.Proofs.YtdijnjigamkhjaaGreatDoor
