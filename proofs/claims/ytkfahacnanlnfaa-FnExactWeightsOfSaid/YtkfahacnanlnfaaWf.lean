/- Weights: the law's walk. -/
import Derived.Test.YtkfahacnanlnfaaWe
namespace Go.Proofs.Ytkfahacnanlnfaa
open Go.RowKit Ieee

theorem implWeights_no (c : Nat) (w : World) (h : wtC c ≠ 0) :
    Calls Try.prog 20 #[.float .f32 c] w fun e w' => e = .returned (.tuple #[.slice none 0 0, .int .i64 (wtC c)]) ∧ Below w.heap.size w w' := by
  unfold wtC at h ⊢
  change (if fin32 c = true then (if ((FloatKind.f32.format.order c 0 == some .lt) || (FloatKind.f32.format.order c 1073741824 == some .gt)) = true then (2 : Int) else 0) else 1) ≠ 0 at h
  change Calls Try.prog 20 #[.float .f32 c] w fun e w' => e = .returned (.tuple #[.slice none 0 0, .int .i64 (if fin32 c = true then (if ((FloatKind.f32.format.order c 0 == some .lt) || (FloatKind.f32.format.order c 1073741824 == some .gt)) = true then (2 : Int) else 0) else 1)]) ∧ Below w.heap.size w w'
  cases hf : fin32 c with
  | false =>
    clear h
    go_enter Try.func20, Try.ntmps20
    go_wp2_with fail
    refine (isNumber_any c _).mono ?_
    rintro e w1 ⟨rfl, b1⟩
    rw [hf]
    have HB := Lib.hid b1; clear b1
    go_wp2
    go_ret2
    exact ⟨rfl, HB.out⟩
  | true =>
    rw [hf] at h
    cases h0 : (FloatKind.f32.format.order c 0 == some .lt) with
    | true =>
      clear h
      go_enter Try.func20, Try.ntmps20
      go_wp2_with fail
      refine (isNumber_any c _).mono ?_
      rintro e w1 ⟨rfl, b1⟩
      rw [hf]
      have HB := Lib.hid b1; clear b1
      go_wp2
      go_ret2
      exact ⟨rfl, HB.out⟩
    | false =>
      cases h2 : (FloatKind.f32.format.order c 1073741824 == some .gt) with
      | false => rw [h0, h2] at h; exact absurd rfl h
      | true =>
        clear h
        go_enter Try.func20, Try.ntmps20
        go_wp2_with fail
        refine (isNumber_any c _).mono ?_
        rintro e w1 ⟨rfl, b1⟩
        rw [hf]
        have HB := Lib.hid b1; clear b1
        go_wp2
        go_ret2
        exact ⟨rfl, HB.out⟩

theorem weights_no (c : Nat) (w : World) (h : wtC c ≠ 0) : Calls Try.prog 6 #[.float .f32 c] w fun e w' => e = .returned (.bool true) ∧ Below w.heap.size w w' := by
  have HS := Lib.hid (fun w => specWeights_no c w h)
  have HI := Lib.hid (fun w => implWeights_no c w h)
  clear h
  generalize wtC c = k at *
  have hk : (k != k) = false := by simp
  go_enter Try.func6, Try.ntmps6
  go_wp2_with fail
  refine (HS.out _).mono ?_
  rintro e w1 ⟨A, c1, rfl, r1, b1⟩
  have B1 := Lib.hid b1; clear b1 r1
  go_wp2_with fail
  refine (HI.out _).mono ?_
  rintro e w2 ⟨rfl, b2⟩
  have B2 := Lib.hid (B1.out.trans (b2.mono B1.out.size)); clear b2
  go_wp2_with fail
  refine (eqFloat32S_any none A 0 c1 0 [] _ rfl (by decide) (fun k x h => by simp at h) (fun k x h => by simp at h) (fun x h => by cases h)).mono ?_
  rintro e w3 ⟨rfl, b3⟩
  have B3 := Lib.hid (B2.out.trans (b3.mono B2.out.size)); clear b3
  go_wp2_with fail
  refine (markF_none none 0 _).mono ?_
  rintro e w' ⟨rfl, rfl⟩
  go_wp2_with fail
  refine (heldF_none none 0 _).mono ?_
  rintro e w' ⟨rfl, rfl⟩
  go_wp2_with fail
  refine (HI.out _).mono ?_
  rintro e w4 ⟨rfl, b4⟩
  have B4 := Lib.hid (B3.out.trans (b4.mono B3.out.size)); clear b4
  go_wp2_with fail
  refine (eqFloat32S_any none A 0 c1 0 [] _ rfl (by decide) (fun k x h => by simp at h) (fun k x h => by simp at h) (fun x h => by cases h)).mono ?_
  rintro e w5 ⟨rfl, b5⟩
  have B5 := Lib.hid (B4.out.trans (b5.mono B4.out.size)); clear b5
  go_wp2_with fail
  refine (heldF_none none 0 _).mono ?_
  rintro e w' ⟨rfl, rfl⟩
  go_wp2
  go_ret
  exact ⟨rfl, B5.out⟩
set_option maxHeartbeats 1000000 in
theorem weights_yes (c : Nat) (w : World) (hf : fin32 c = true) (h0 : (single.order c 0 == some .lt) = false) (h2 : (single.order c 1073741824 == some .gt) = false) : Calls Try.prog 6 #[.float .f32 c] w fun e w' => e = .returned (.bool true) ∧ Below w.heap.size w w' := by
  have HS := Lib.hid (fun w => specWeights_yes c w hf h0 h2)
  have HI := Lib.hid (fun w => implWeights_yes c w hf h0 h2)
  obtain ⟨_, _, _, _, _, l6, l7⟩ := wt_lims (lim_two hf h0 h2).1
  have HF := Lib.hid (show ∀ x ∈ [cz (wtA c), cz (wtB c)], fin32 x = true by
    intro x hx
    simp only [List.mem_cons, List.not_mem_nil, or_false] at hx
    rcases hx with rfl | rfl
    · exact (lim_cz l6).fin
    · exact (lim_cz l7).fin)
  clear hf h0 h2 l6 l7
  generalize cz (wtA c) = x at *
  generalize cz (wtB c) = y at *
  go_enter Try.func6, Try.ntmps6
  go_wp2_with fail
  refine (HS.out _).mono ?_
  rintro e w1 ⟨A, c1, rfl, r1, b1⟩
  have B1 := Lib.hid b1; clear b1
  have R1 := Lib.hid r1; clear r1
  go_wp2_with fail
  refine (HI.out _).mono ?_
  rintro e w2 ⟨G, rfl, hG, o2, b2⟩
  have R2 := Lib.hid (R1.out.below b2)
  have B2 := Lib.hid (B1.out.trans (b2.mono B1.out.size)); clear b2
  have O2 := Lib.hid o2; clear o2
  go_wp2_with fail
  refine (eqFloat32S_any _ A 2 c1 2 [x, y] _ rfl (by decide) O2.out.rd R2.out HF.out).mono ?_
  rintro e w3 ⟨rfl, b3⟩
  have R3 := Lib.hid (R2.out.below b3)
  have O3 := Lib.hid (O2.out.below b3 O2.out.lt)
  have B3 := Lib.hid (B2.out.trans (b3.mono B2.out.size)); clear b3
  have hGA : ∀ b off, A = some ⟨b, off, none⟩ → b < G := by
    intro b off e
    obtain ⟨b', off', e', hl, _⟩ := R1.out 0 _ rfl
    rw [e] at e'
    cases e'
    omega
  go_wp2_with fail
  refine (markF_any G 2 x y _ O3.out).mono ?_
  rintro e w4 ⟨rfl, o4, g4⟩
  have hlt4 := O3.out.lt
  have B4 := Lib.hid (B3.out.grown g4 B3.out.size (fun g e => by cases e; have := B1.out.size; omega) : Below w.heap.size w w4)
  have O4 := Lib.hid o4; clear o4
  have R4 := Lib.hid (show FRd w4 A [x, y] by
    intro k z hk
    obtain ⟨b, off, e, hl, hc⟩ := R3.out k z hk
    have hb := hGA b off e
    have hblk := g4.block b hl (fun e => by cases e; omega)
    refine ⟨b, off, e, Nat.lt_of_lt_of_le hl g4.size, ?_⟩
    rw [← hc]
    simp [World.cell?, hblk])
  clear g4
  go_wp2_with fail
  refine (heldF_any _ 2 _ O4.out.rd).mono ?_
  rintro e w' ⟨rfl, rfl⟩
  go_wp2_with fail
  refine (HI.out _).mono ?_
  rintro e w5 ⟨G', rfl, hG', o5, b5⟩
  have R5 := Lib.hid (R4.out.below b5)
  have O45 := Lib.hid (O4.out.below b5 O4.out.lt)
  have B5 := Lib.hid (B4.out.trans (b5.mono B4.out.size)); clear b5
  have O5 := Lib.hid o5; clear o5
  go_wp2_with fail
  refine (eqFloat32S_any _ A 2 c1 2 [x, y] _ rfl (by decide) O5.out.rd R5.out HF.out).mono ?_
  rintro e w6 ⟨rfl, b6⟩
  have O6 := Lib.hid (O45.out.below b6 O45.out.lt)
  have B6 := Lib.hid (B5.out.trans (b6.mono B5.out.size)); clear b6
  go_wp2_with fail
  refine (heldF_any _ 2 _ O6.out.rd).mono ?_
  rintro e w' ⟨rfl, rfl⟩
  go_wp2
  go_ret
  exact ⟨rfl, B6.out⟩
theorem weights_walk (c : Nat) (w : World) : Calls Try.prog 6 #[.float .f32 c] w fun e w' => e = .returned (.bool true) ∧ Below w.heap.size w w' := by
  by_cases h : wtC c = 0
  · unfold wtC at h
    cases hf : fin32 c with
    | false => rw [hf] at h; cases h
    | true =>
      rw [hf] at h
      cases h0 : (single.order c 0 == some .lt) with
      | true => rw [h0] at h; cases h
      | false =>
        cases h2 : (single.order c 1073741824 == some .gt) with
        | true => rw [h0, h2] at h; cases h
        | false => exact weights_yes c w hf h0 h2
  · exact weights_no c w h
end Go.Proofs.Ytkfahacnanlnfaa
