/- Walks: both roots, as one function of the word. -/
import Derived.Test.YtkfahacnanlnfaaRf
namespace Go.Proofs.Ytkfahacnanlnfaa
open Go.RowKit Ieee

/-- The root of a number of single precision that is at least 0. -/
def rtv (x : Nat) : Nat := (floatToFloatBits .f64 ((double.sqrt (wide x)).getD 0) .f32).getD 0
theorem rtv_is {x m : Nat} {e k : Int} {n r : Nat} (hx : single.read x = .number false m e) (hm : m ≠ 0) (hF : Framed m e k n) (hr : isRoot n r) :
    rtv x = rootW k (evenOf n r) ∧ (∃ s, double.sqrt (wide x) = some s ∧ floatToFloatBits .f64 s .f32 = some (rtv x)) ∧ -45 ≤ k ∧ k ≤ 110 ∧ 16777216 ≤ evenOf n r ∧ evenOf n r ≤ 33554432 ∧ evenOf n r % 2 = 0 := by
  obtain ⟨t, h1, h2, h3, h4⟩ := hF
  obtain ⟨⟨s, hs, hc⟩, rest⟩ := impl_root hx hm h1 h2 h3 h4 hr
  have e : rtv x = rootW k (evenOf n r) := by unfold rtv; rw [hs, Option.getD_some, hc, Option.getD_some]
  refine ⟨e, ⟨s, hs, ?_⟩, rest⟩
  rw [hc, e]
theorem l01Root_pos (x m : Nat) (e : Int) (w : World) (hx : single.read x = .number false m e) (hm : m ≠ 0) : Calls Try.prog 79 #[.float .f32 x] w fun e' w' => e' = .returned (.float .f32 (rtv x)) ∧ w = w' :=
  (l01Root_any x m e w hx hm).mono fun e' w' ⟨k, n, r, hF, hr, he, hw⟩ => ⟨by rw [he, (rtv_is hx hm hF hr).1], hw⟩
theorem l01Root_zero (x : Nat) (w : World) (hx : (single.order x 0 == some .eq) = true) : Calls Try.prog 79 #[.float .f32 x] w fun e' w' => e' = .returned (.float .f32 0) ∧ w = w' := by
  have h : (FloatKind.f32.format.order x 0 == some .eq) = true := hx
  clear hx
  go_enter Try.func79, Try.ntmps79
  go_wp2
  go_ret
  exact ⟨rfl, rfl⟩

/-- A frame there is, for each positive number. -/
theorem frame_ex {m : Nat} (hm : m ≠ 0) (h1 : m < 16777216) (e : Int) : ∃ k n r, Framed m e k n ∧ isRoot n r := by
  obtain ⟨l1, l2⟩ := log2_bounds hm
  have hl : m.log2 < 24 := (Nat.log2_lt hm).2 h1
  obtain ⟨t, ht⟩ : ∃ t : Nat, (t : Int) % 2 = e % 2 ∧ 48 ≤ m.log2 + t ∧ m.log2 + t ≤ 49 := by
    rcases (by omega : (((48 - m.log2 : Nat) : Int) % 2 = e % 2) ∨ (((49 - m.log2 : Nat) : Int) % 2 = e % 2)) with h | h
    · exact ⟨48 - m.log2, h, by omega, by omega⟩
    · exact ⟨49 - m.log2, h, by omega, by omega⟩
  have n48 : 281474976710656 ≤ m * 2 ^ t := by
    have h2 : 2 ^ 48 ≤ 2 ^ (m.log2 + t) := Nat.pow_le_pow_right (by decide) ht.2.1
    rw [Nat.pow_add] at h2
    exact Nat.le_trans h2 (Nat.mul_le_mul_right _ l1)
  have n50 : m * 2 ^ t < 1125899906842624 := by
    have h2 : 2 ^ (m.log2 + 1 + t) ≤ 2 ^ 50 := Nat.pow_le_pow_right (by decide) (by omega)
    rw [Nat.pow_add] at h2
    exact Nat.lt_of_lt_of_le (Nat.mul_lt_mul_of_pos_right l2 (Nat.two_pow_pos _)) h2
  refine ⟨((t : Int) - e) / 2, m * 2 ^ t, Datum.rootFrom (m * 2 ^ t) 25 0, ⟨t, by omega, rfl, n48, n50⟩, rootFrom_is _ 25 0 (Nat.zero_le _) ?_⟩
  have h2 : 1125899906842624 = (0 + 2 ^ 25) * (0 + 2 ^ 25) := by decide
  rw [← h2]
  exact n50

theorem sqrt_run (args : Array Value) (w : World) : (callFunc 107 args).run Try.prog w = ((Extern.MathSqrt.sqrt args).run Try.prog w).andThen fun v w' => .ok (.value v) w' :=
  run_callFunc_extern Try.func107 (by kernel_rfl) (by kernel_rfl) (by kernel_rfl) (by kernel_rfl) args w
theorem sqrt_at {v s : Nat} (h : double.sqrt v = some s) (w : World) : (callFunc 107 #[.float .f64 v]).run Try.prog w = .ok (.value (.float .f64 s)) w := by
  rw [sqrt_run]
  have h' : FloatKind.f64.format.sqrt v = some s := h
  have e : Extern.MathSqrt.sqrt #[.float .f64 v] = (match FloatKind.f64.format.sqrt v with | some r => pure (.float .f64 r) | none => do pure (.float .f64 (← choose (.nanBits .f64 v v)))) := rfl
  rw [e, h']
  rfl
theorem mathSqrt_any {v s : Nat} (h : double.sqrt v = some s) (w : World) : Calls Try.prog 83 #[.float .f64 v] w fun e w' => e = .returned (.float .f64 s) ∧ w = w' := by
  have hs := fun w => sqrt_at h w
  clear h
  go_enter Try.func83, Try.ntmps83
  go_wp2_with (simp only [hs])
  go_ret
  exact ⟨rfl, rfl⟩
/-- The program's root at a word whose root double precision has. -/
theorem calcRoot_at (B : Nat) (c : Int) (x s r : Nat) (w : World) (h : CalcAt w B c) (hc : ∀ w, (convert 22 29 (.float .f32 x)).run Try.prog w = .ok (.float .f64 (wide x)) w) (hs : double.sqrt (wide x) = some s) (hr : floatToFloatBits .f64 s .f32 = some r) :
    Calls Try.prog 50 #[.pointer (some ⟨B, 0, none⟩), .float .f32 x] w (CalcPost B (stpC c r) (stpV c r) w) := by
  have HC := Lib.hid h; clear h
  have hd := fun w => run_convert_float_float (P := Try.prog) w 29 22 .f64 .f32 s r (by rw [Try.underlying29]; rfl) Try.underlying22 hr
  have HS := Lib.hid hs; clear hs hr
  generalize wide x = v at *
  go_enter Try.func50, Try.ntmps50
  go_wp2_with (first | (go_at_call 83; refine (mathSqrt_any HS.out _).mono ?_; rintro e w' ⟨rfl, rfl⟩) | (go_at_call 82; refine (round_any B c r _ HC.out).mono ?_; rintro e w2 ⟨rfl, hc2, hg⟩) | (simp only [hc]) | (simp only [hd]))
  go_ret
  exact ⟨rfl, hc2, hg⟩
theorem calcRoot_pos (B : Nat) (c : Int) (x m : Nat) (e : Int) (w : World) (h : CalcAt w B c) (hx : single.read x = .number false m e) (hm : m ≠ 0) :
    Calls Try.prog 50 #[.pointer (some ⟨B, 0, none⟩), .float .f32 x] w (CalcPost B (stpC c (rtv x)) (stpV c (rtv x)) w) := by
  obtain ⟨k, n, r, hF, hr⟩ := frame_ex hm (num32 hx).1 e
  obtain ⟨_, ⟨s, hs, hc⟩, _⟩ := rtv_is hx hm hF hr
  exact calcRoot_at B c x s _ w h (conv_num hx) hs hc
theorem calcRoot_zero (B : Nat) (c : Int) (w : World) (h : CalcAt w B c) :
    Calls Try.prog 50 #[.pointer (some ⟨B, 0, none⟩), .float .f32 0] w (CalcPost B (stpC c 0) (stpV c 0) w) := by
  have hx : single.read 0 = .number false 0 (-149) := by decide +kernel
  have h0 : wide 0 = 0 := by decide +kernel
  exact calcRoot_at B c 0 0 0 w h (conv_num hx) (by rw [h0]; decide +kernel) (by decide +kernel)
/-- A root is a positive number. -/
theorem rtv_read {x m : Nat} {e : Int} (hx : single.read x = .number false m e) (hm : m ≠ 0) : ∃ m' e', single.read (rtv x) = .number false m' e' ∧ m' ≠ 0 ∧ -112 ≤ e' ∧ e' ≤ 50 := by
  obtain ⟨k, n, r, hF, hr⟩ := frame_ex hm (num32 hx).1 e
  obtain ⟨h, _, k1, k2, v1, v2, v3⟩ := rtv_is hx hm hF hr
  rw [h]
  generalize evenOf n r = v at *
  have hw : rootW k v = single.word false (rootW k v) := rfl
  have hb : rootW k v < 2139095040 := by unfold rootW; omega
  have hb2 : 8388608 ≤ rootW k v := by unfold rootW; omega
  rw [hw, read_word single false (by rw [s_sign]; omega), s_bin, s_inf, s_least, if_neg (by omega), if_pos hb]
  refine ⟨_, _, rfl, by omega, ?_, ?_⟩
  · unfold rootW; omega
  · unfold rootW; omega
end Go.Proofs.Ytkfahacnanlnfaa
