/- Rows of floats: comparing, marking, holding; the reference's copy without signs of zeros. -/
import Derived.Test.YtkfahacnanlnfaaWa
import Derived.Test.YtkfahacnanlnfaaV
namespace Go.Proofs.Ytkfahacnanlnfaa
open Go.RowKit Ieee

theorem FRd.drewN {w : World} {A : Option Addr} {xs : List Nat} (h : FRd w A xs) (n : Nat) : FRd (w.drewN n) A xs := h
theorem belowDrewN {w w' : World} {B : Nat} (h : Below B w w') (n : Nat) : Below B w (w'.drewN n) := h.trans ⟨rfl, rfl, rfl, Nat.le_refl _, fun _ _ => rfl⟩

theorem eqFloat32S_any (A A' : Option Addr) (c c' n : Nat) (xs : List Nat) (w : World) (hl : xs.length = n) (hn : n ≤ 1048576) (hr : FRd w A xs) (hr' : FRd w A' xs) (hf : ∀ x ∈ xs, fin32 x = true) :
    Calls Try.prog 21 #[.slice A n c, .slice A' n c'] w fun e w' => e = .returned (.bool true) ∧ Below w.heap.size w w' := by
  have HR := Lib.hid hr; clear hr
  have HR' := Lib.hid hr'; clear hr'
  have HF := Lib.hid hf; clear hf
  go_enter Try.func21, Try.ntmps21
  go_wp2
  go_loopw [5] (fun i wr => ∃ k : Nat, k ≤ n ∧ i = .int .i64 k ∧ Below w.heap.size w wr) (fun i _ => n - (intOf i).toNat)
  case atStart => exact ⟨0, Nat.zero_le _, rfl, Below.refl _ _⟩
  case round =>
    obtain ⟨k, hk, rfl, hbw⟩ := hrel
    by_cases hlt : k < n
    · obtain ⟨x, hx⟩ : ∃ x, xs[k]? = some x := ⟨_, List.getElem?_eq_getElem (by omega)⟩
      obtain ⟨b, off, rfl, hbl, h0⟩ := HR.out.below hbw k x hx
      obtain ⟨b', off', rfl, hbl', h0'⟩ := HR'.out.below hbw k x hx
      have hfx := HF.out x (List.mem_of_getElem? hx)
      have hc := wide_conv hfx
      have hg := Lib.hid (fin_wide hfx)
      generalize wide x = v at *
      have BW := Lib.hid hbw; clear hbw
      clear hfx hx
      go_wp2
      go_quiet ((go_at_call 12; exact Calls.quiet_of_same ((sameFloat_any v _ hg.out).mono fun _ _ h => ⟨h.1, h.2.symm⟩)))
      go_wp2
      exact ⟨⟨k + 1, by omega, by go_num, belowDrewN BW.out _⟩, by simp [intOf]; omega⟩
    · obtain rfl : k = n := by omega
      go_wp2
      go_ret
      exact ⟨rfl, hbw⟩

theorem grownBy_setCell {w w' : World} {g : Nat} (h : w.grownBy w' (some g)) (i : Nat) (u : Value) : w.grownBy (w'.setCell ⟨g, i, none⟩ u) (some g) := h.trans (grownBy_set w' g i u)
/-- Block G is the two floats x, y. -/
def FRow2 (w : World) (G x y : Nat) : Prop := ∃ t, w.heap[G]? = some (.cells #[.float .f32 x, .float .f32 y] t (0, 0))
section
variable {w w' : World} {G x y : Nat}
theorem FRow2.lt (h : FRow2 w G x y) : G < w.heap.size := by
  obtain ⟨t, h⟩ := h; exact (Array.getElem?_eq_some_iff.1 h).1
theorem FRow2.cells (h : FRow2 w G x y) : w.cell? ⟨G, 0, none⟩ = some (.float .f32 x) ∧ w.cell? ⟨G, 1, none⟩ = some (.float .f32 y) := by
  obtain ⟨t, h⟩ := h; simp [World.cell?, h]
theorem FRow2.frozen (h : FRow2 w G x y) (i : Nat) : w.frozen? ⟨G, i, none⟩ = false := by
  obtain ⟨t, h⟩ := h; simp [World.frozen?, h]
theorem FRow2.keep (h : FRow2 w G x y) (hb : w'.heap[G]? = w.heap[G]?) : FRow2 w' G x y := by
  obtain ⟨t, h⟩ := h; exact ⟨t, hb.trans h⟩
theorem FRow2.below {B : Nat} (h : FRow2 w G x y) (hb : Below B w w') (hG : G < B) : FRow2 w' G x y := h.keep (hb.block G hG)
theorem FRow2.set0 (h : FRow2 w G x y) (z : Nat) : FRow2 (w.setCell ⟨G, 0, none⟩ (.float .f32 z)) G z y := by
  obtain ⟨t, h⟩ := h; exact ⟨t, by simp [World.setCell, Array.getElem?_modify, h]⟩
theorem FRow2.set1 (h : FRow2 w G x y) (z : Nat) : FRow2 (w.setCell ⟨G, 1, none⟩ (.float .f32 z)) G x z := by
  obtain ⟨t, h⟩ := h; exact ⟨t, by simp [World.setCell, Array.getElem?_modify, h]⟩
theorem FRow2.rd (h : FRow2 w G x y) : FRd w (some ⟨G, 0, none⟩) [x, y] := by
  obtain ⟨h0, h1⟩ := h.cells
  intro k z hk
  refine ⟨G, 0, rfl, h.lt, ?_⟩
  match k, hk with
  | 0, hk => cases hk; exact h0
  | 1, hk => cases hk; exact h1
end

theorem int1 : floatOfInt .f32 1 = 1065353216 := by decide +kernel
theorem int2 : floatOfInt .f32 2 = 1073741824 := by decide +kernel
theorem markF_any (G cap x y : Nat) (w : World) (hr : FRow2 w G x y) :
    Calls Try.prog 22 #[.slice (some ⟨G, 0, none⟩) 2 cap, .int .i64 1] w fun e w' => e = .returned (.int .i64 3) ∧ FRow2 w' G 1065353216 1073741824 ∧ w.grownBy w' (some G) := by
  have HR := Lib.hid hr; clear hr
  have i1 := int1
  have i2 := int2
  go_enter Try.func22, Try.ntmps22
  go_wp2
  go_loopw [1, 5] (fun t i wr => ∃ k : Nat, k ≤ 2 ∧ i = .int .i64 k ∧ t = .int .i64 (1 + k) ∧ FRow2 wr G (if 0 < k then 1065353216 else x) (if 1 < k then 1073741824 else y) ∧ w.grownBy wr (some G)) (fun _ i _ => 2 - (intOf i).toNat)
  case atStart => exact ⟨0, Nat.zero_le _, rfl, by rfl, HR.out, World.grownBy.refl _ _⟩
  case round =>
    obtain ⟨k, hk, rfl, rfl, hrow, hg⟩ := hrel
    obtain ⟨c0, c1⟩ := hrow.cells
    have f0 := hrow.frozen 0
    have f1 := hrow.frozen 1
    have lt := hrow.lt
    rcases (by omega : k = 0 ∨ k = 1 ∨ k = 2) with rfl | rfl | rfl
    · have H := Lib.hid hrow; clear hrow
      go_wp2
      exact ⟨⟨1, by omega, by rfl, by rfl, H.out.set0 _, grownBy_setCell hg _ _⟩, by decide⟩
    · have H := Lib.hid hrow; clear hrow
      go_wp2
      exact ⟨⟨2, by omega, by rfl, by rfl, H.out.set1 _, grownBy_setCell hg _ _⟩, by decide⟩
    · have H := Lib.hid hrow; clear hrow
      go_wp2
      go_ret
      exact ⟨rfl, H.out, hg⟩
theorem heldF_any (A : Option Addr) (cap : Nat) (w : World) (hr : FRd w A [1065353216, 1073741824]) :
    Calls Try.prog 23 #[.slice A 2 cap, .int .i64 1] w fun e w' => e = .returned (.int .i64 3) ∧ w = w' := by
  obtain ⟨b, off, rfl, hbl, c0⟩ := hr 0 _ rfl
  obtain ⟨b', off', hA, hbl', c1⟩ := hr 1 _ rfl
  cases hA
  clear hr
  rw [Nat.add_zero] at c0
  have i1 := int1
  have i2 := int2
  have o1 : (FloatKind.f32.format.order 1065353216 1065353216) = some .eq := by decide +kernel
  have o2 : (FloatKind.f32.format.order 1073741824 1073741824) = some .eq := by decide +kernel
  go_enter Try.func23, Try.ntmps23
  go_wp2
  go_loop [1, 5] (fun t i => ∃ k : Nat, k ≤ 2 ∧ i = .int .i64 k ∧ t = .int .i64 (1 + k)) (fun _ i => 2 - (intOf i).toNat)
  case atStart => exact ⟨0, Nat.zero_le _, rfl, by rfl⟩
  case round =>
    obtain ⟨k, hk, rfl, rfl⟩ := hrel
    rcases (by omega : k = 0 ∨ k = 1 ∨ k = 2) with rfl | rfl | rfl
    · go_wp2
      exact ⟨⟨1, by omega, by rfl, by rfl⟩, by decide⟩
    · go_wp2
      exact ⟨⟨2, by omega, by rfl, by rfl⟩, by decide⟩
    · go_wp2
      go_ret
      exact ⟨rfl, rfl⟩
theorem markF_none (A : Option Addr) (cap : Nat) (w : World) :
    Calls Try.prog 22 #[.slice A 0 cap, .int .i64 1] w fun e w' => e = .returned (.int .i64 1) ∧ w = w' := by
  go_enter Try.func22, Try.ntmps22
  go_wp2
  refine wp_loop_once ?_
  go_wp2
  go_ret
  exact ⟨rfl, rfl⟩
theorem heldF_none (A : Option Addr) (cap : Nat) (w : World) :
    Calls Try.prog 23 #[.slice A 0 cap, .int .i64 1] w fun e w' => e = .returned (.int .i64 1) ∧ w = w' := by
  go_enter Try.func23, Try.ntmps23
  go_wp2
  refine wp_loop_once ?_
  go_wp2
  go_ret
  exact ⟨rfl, rfl⟩
end Go.Proofs.Ytkfahacnanlnfaa
