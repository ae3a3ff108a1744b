/- The walk of the law on drifts. -/
import Derived.Test.YtkfahacnanlnfaaZGh
namespace Go.Proofs.Ytkfahacnanlnfaa
open Go.RowKit Ieee

theorem own_frd {w : World} {base : Nat} {v : Value} {l : List Nat} (h : w.ownsRow base 22 1 v l.length (fvals l)) : ∃ A c, v = .slice A l.length c ∧ FRd w A l := by
  have HW := h
  obtain ⟨_, ⟨rfl, h0⟩ | ⟨g, cap, cur, rfl, hg, hh, rest⟩⟩ := h
  · have : l = [] := List.eq_nil_of_length_eq_zero h0
    subst this
    exact ⟨none, 0, rfl, fun k x h => by simp at h⟩
  · refine ⟨_, cap, rfl, fun j x hx => ⟨g, 0, rfl, (Array.getElem?_eq_some_iff.1 hh).1, ?_⟩⟩
    have := HW.cells (g := g) rfl j (.float .f32 x) (by simp [fvals, hx])
    rw [addr_plus] at this
    exact this
theorem FRd.grown {w w' : World} {A : Option Addr} {l : List Nat} {row : Option Nat} {K : Nat} (h : FRd w A l) (hg : w.grownBy w' row) (hK : ∀ b off, A = some ⟨b, off, none⟩ → l ≠ [] → b < K) (hr : ∀ g, row = some g → K ≤ g) : FRd w' A l := by
  intro k z hk
  obtain ⟨b, off, e, hl, hc⟩ := h k z hk
  have hb := hK b off e (by rintro rfl; simp at hk)
  have hblk := hg.block b hl (fun e => by have := hr b e.symm; omega)
  refine ⟨b, off, e, Nat.lt_of_lt_of_le hl hg.size, ?_⟩
  rw [← hc]
  simp [World.cell?, hblk]
theorem FRd.bound {w : World} {A : Option Addr} {l : List Nat} (h : FRd w A l) : ∀ b off, A = some ⟨b, off, none⟩ → l ≠ [] → b < w.heap.size := by
  intro b off e hne
  cases l with
  | nil => exact absurd rfl hne
  | cons x l =>
    obtain ⟨b', off', e', hl, _⟩ := h 0 x rfl
    rw [e] at e'
    cases e'
    exact hl
theorem markO_any (base : Nat) (v : Value) (l : List Nat) (w : World) (hn : l.length ≤ 61) (hr : w.ownsRow base 22 1 v l.length (fvals l)) :
    Calls Try.prog 22 #[v, .int .i64 1] w fun e w' => e = .returned (.int .i64 (1 + (l.length : Int))) ∧ w'.ownsRow base 22 1 v l.length (fvals (marksF l.length)) ∧ w.grownBy w' v.ownBlock := by
  have HR := hr
  obtain ⟨_, ⟨rfl, h0⟩ | ⟨g, cap, cur, rfl, hg, hh, rest⟩⟩ := hr
  · have : l = [] := List.eq_nil_of_length_eq_zero h0
    subst this
    refine (markF_none none 0 w).mono ?_
    rintro e w' ⟨rfl, rfl⟩
    exact ⟨rfl, ⟨rfl, .inl ⟨rfl, rfl⟩⟩, World.grownBy.refl _ _⟩
  · exact markFs_any base g cap l.length l w rfl hn HR
theorem own_frd' {w : World} {base n : Nat} {v : Value} {l : List Nat} (hl : l.length = n) (h : w.ownsRow base 22 1 v n (fvals l)) : ∃ A c, v = .slice A n c ∧ FRd w A l := by
  subst hl; exact own_frd h
theorem O3_lt {w : World} {base : Nat} {v : Value} {xs : List Pl.Pu} (h : Pl.Own w base v xs) : ∀ g, v.ownBlock = some g → base ≤ g ∧ g < w.heap.size := by
  intro g e
  rcases h with ⟨rfl, rfl⟩ | ⟨G, cap, more, rfl, hG, hr, _⟩
  · cases e
  · injection e with e
    have e' : G = g := e
    subst e'
    exact ⟨hG, hr.lt⟩
set_option maxHeartbeats 2000000 in
theorem drifts_walk (A : Option Addr) (c : Nat) (xs : List Pl.Pu) (w : World) (hm : xs.length ≤ maxLen) (hr : Pl.Rd w A xs) :
    Calls Try.prog 8 #[.slice A xs.length c] w fun e w' => e = .returned (.bool true) ∧ Below w.heap.size w w' := by
  unfold maxLen at hm
  by_cases hn : xs.length ≤ 1048576
  · have HR := Lib.hid hr; clear hr
    have hl61 := drL_length (xs := xs)
    have HF := Lib.hid (drL_fin xs)
    have KS := Lib.hid (fun A c w hr => specDrifts_any A c xs w hn hr)
    have KI := Lib.hid (fun A c w hr hA => implDrifts_any A c xs w hn hr hA)
    generalize drL xs = l at *
    generalize drC xs = q at *
    unfold MadeF2 MadeO at *
    have hcd : (q != q) = false := by simp
    go_enter Try.func8, Try.ntmps8
    go_wp2_with (go_at_call 24; refine (Pl.szPulseS_any _ _ _ _ hn).mono ?_; rintro e w' ⟨rfl, rfl⟩)
    refine (Pl.toPulseS_any _ _ _ _ hn HR.out).mono ?_
    rintro e w1 ⟨v1, rfl, o1, b1⟩
    obtain ⟨A1, c1, rfl, r1⟩ := o1.rd
    have R1 := Lib.hid r1; clear r1 o1
    go_wp2_with fail
    refine (KS.out _ _ _ R1.out).mono ?_
    rintro e w2 ⟨A2, c2, rfl, r2, b2⟩
    have R2 := Lib.hid r2; clear r2
    have B2 := Lib.hid (b1.trans (b2.mono b1.size)); clear b1 b2
    go_wp2_with fail
    refine (Pl.toPulseS_any _ _ _ _ hn (HR.out.below B2.out)).mono ?_
    rintro e w3 ⟨v3, rfl, o3, b3⟩
    have O3 := Lib.hid o3
    have R23 := Lib.hid (R2.out.below b3)
    have B3 := Lib.hid (B2.out.trans (b3.mono B2.out.size))
    have s23 := b3.size
    clear b3
    obtain ⟨A3, c3, rfl, r3, h3⟩ := Own_rd2 o3
    have R3 := Lib.hid r3; have H3 := Lib.hid h3; clear r3 h3 o3
    go_wp2_with fail
    refine (KI.out _ _ _ R3.out H3.out).mono ?_
    rintro e w4 ⟨v4, rfl, o4, b4⟩
    have O4 := Lib.hid o4
    have O34 := Lib.hid (O3.out.below b4)
    have R24 := Lib.hid (R23.out.below b4)
    have R34 := Lib.hid (R3.out.below b4)
    have B4 := Lib.hid (B3.out.trans (b4.mono B3.out.size))
    have s34 := b4.size
    clear b4
    obtain ⟨A4, c4, rfl, r4⟩ := own_frd o4
    have R4 := Lib.hid r4; clear r4 o4
    go_wp2_with fail
    refine (eqFloat32S_any _ _ _ _ _ l _ rfl (by omega) R4.out R24.out HF.out).mono ?_
    rintro e w5 ⟨rfl, b5⟩
    have O5 := Lib.hid (ownsRow_below O4.out b5)
    have O35 := Lib.hid (O34.out.below b5)
    have R25 := Lib.hid (R24.out.below b5)
    have R35 := Lib.hid (R34.out.below b5)
    have B5 := Lib.hid (B4.out.trans (b5.mono B4.out.size))
    clear b5
    go_wp2_with fail
    refine (Pl.toPulseS_any _ _ _ _ hn (HR.out.below B5.out)).mono ?_
    rintro e w6 ⟨v6, rfl, o6, b6⟩
    obtain ⟨A6, c6, rfl, r6⟩ := o6.rd
    have R6 := Lib.hid r6; clear r6 o6
    have O6 := Lib.hid (ownsRow_below O5.out b6)
    have O36 := Lib.hid (O35.out.below b6)
    have R26 := Lib.hid (R25.out.below b6)
    have R36 := Lib.hid (R35.out.below b6)
    have B6 := Lib.hid (B5.out.trans (b6.mono B5.out.size))
    clear b6
    go_wp2_with fail
    refine (Pl.eqPulseS_any _ _ _ _ _ _ _ rfl hn R36.out R6.out).mono ?_
    rintro e w7 ⟨rfl, b7⟩
    rw [decide_eq_true (rfl : xs = xs)]
    have O7 := Lib.hid (ownsRow_below O6.out b7)
    have O37 := Lib.hid (O36.out.below b7)
    have R27 := Lib.hid (R26.out.below b7)
    have B7 := Lib.hid (B6.out.trans (b7.mono B6.out.size))
    clear b7
    go_wp2_with fail
    refine (Pl.mark_any _ _ _ _ _ hn (by omega) (by omega) O37.out).mono ?_
    rintro e w8 ⟨rfl, o38, g8⟩
    clear o38
    have s3 := O3_lt O3.out
    have O8 := Lib.hid (World.ownsRow.kept O7.out g8 (by
      cases e4 : Value.ownBlock (.slice A4 l.length c4) with
      | none => exact .inl rfl
      | some g4 =>
        refine .inr fun e => ?_
        have h1 := (O4.out.lt g4 e4).1
        have h2 := s3 g4 e.symm
        omega))
    have R28 := Lib.hid (R27.out.grown g8 R2.out.bound (fun g e => (s3 g e).1))
    have B8 := Lib.hid (B7.out.grown g8 B7.out.size (fun g e => by have := (s3 g e).1; have := B2.out.size; omega))
    clear g8 s3
    have hk : ¬ (1 + 3 * (xs.length : Int) < 0) := by omega
    obtain ⟨A48, c48, e48, r48⟩ := own_frd O8.out
    cases e48
    have R48 := Lib.hid r48; clear r48
    go_wp2_with fail
    refine (eqFloat32S_any _ _ _ _ _ l _ rfl (by omega) R48.out R28.out HF.out).mono ?_
    rintro e w9 ⟨rfl, b9⟩
    have O9 := Lib.hid (ownsRow_below O8.out b9)
    have R29 := Lib.hid (R28.out.below b9)
    have B9 := Lib.hid (B8.out.trans (b9.mono B8.out.size))
    clear b9
    go_wp2_with fail
    refine (markO_any _ _ l _ hl61 O9.out).mono ?_
    rintro e w10 ⟨rfl, o10, g10⟩
    have O10 := Lib.hid o10
    have s4 := fun g e => (O4.out.lt g e).1
    have R210 := Lib.hid (R29.out.grown g10 R2.out.bound (fun g e => by have := s4 g e; omega))
    have B10 := Lib.hid (B9.out.grown g10 B9.out.size (fun g e => by have := s4 g e; have := B3.out.size; omega))
    clear g10 s4 o10
    have hq : ¬ (1 + (l.length : Int) < 0) := by omega
    obtain ⟨A410, c410, e410, r410⟩ := own_frd' (marksF_length l.length) O10.out
    cases e410
    have R410 := Lib.hid r410; clear r410
    go_wp2_with (go_at_call 23; refine (heldFs_any _ _ _ _ hl61 R410.out).mono ?_; rintro e w' ⟨rfl, rfl⟩)
    refine (Pl.toPulseS_any _ _ _ _ hn (HR.out.below B10.out)).mono ?_
    rintro e w11 ⟨v11, rfl, o11, b11⟩
    have B11 := Lib.hid (B10.out.trans (b11.mono B10.out.size))
    have R211 := Lib.hid (R210.out.below b11)
    have R411 := Lib.hid (R410.out.below b11)
    clear b11
    obtain ⟨A11, c11, rfl, r11, h11⟩ := Own_rd2 o11
    have R11 := Lib.hid r11; have H11 := Lib.hid h11; clear r11 h11 o11
    go_wp2_with fail
    refine (KI.out _ _ _ R11.out H11.out).mono ?_
    rintro e w12 ⟨v12, rfl, o12, b12⟩
    have B12 := Lib.hid (B11.out.trans (b12.mono B11.out.size))
    have R212 := Lib.hid (R211.out.below b12)
    have R412 := Lib.hid (R411.out.below b12)
    clear b12
    obtain ⟨A12, c12, rfl, r12⟩ := own_frd o12
    have R12 := Lib.hid r12; clear r12 o12
    go_wp2_with fail
    refine (eqFloat32S_any _ _ _ _ _ l _ rfl (by omega) R12.out R212.out HF.out).mono ?_
    rintro e w13 ⟨rfl, b13⟩
    have B13 := Lib.hid (B12.out.trans (b13.mono B12.out.size))
    have R413 := Lib.hid (R412.out.below b13)
    clear b13
    go_wp2_with (go_at_call 23; refine (heldFs_any _ _ _ _ hl61 R413.out).mono ?_; rintro e w' ⟨rfl, rfl⟩)
    go_ret
    exact ⟨rfl, B13.out⟩
  · go_enter Try.func8, Try.ntmps8
    go_wp2_with (go_at_call 24; refine (Pl.szPulseS_big _ _ _ _ (by omega) hm).mono ?_; rintro e w' ⟨rfl, rfl⟩)
    go_ret
    exact ⟨rfl, Below.refl _ _⟩
end Go.Proofs.Ytkfahacnanlnfaa
