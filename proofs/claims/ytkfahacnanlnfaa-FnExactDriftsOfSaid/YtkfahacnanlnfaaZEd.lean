/- Walks: both roots, as one function of the word. -/
/- The numbers of halvings. No program in sight. -/
/- Plain laws of the floats: bounds from below; quotients. No program in sight. -/
import Derived.Test.YtkfahacnanlnfaaZEb
import Derived.Test.YtkfahacnanlnfaaZRf
namespace Go.Proofs.Ytkfahacnanlnfaa
open Go.RowKit Ieee

/-- The root of a number of single precision that is at least 0. -/
def rtv (x : Nat) : Nat := (floatToFloatBits .f64 ((double.sqrt (wide x)).getD 0) .f32).getD 0
theorem rtv_is {x m : Nat} {e k : Int} {n r : Nat} (hx : single.read x = .number false m e) (hm : m ≠ 0) (hF : Framed m e k n) (hr : isRoot n r) :
    rtv x = rootW k (evenOf n r) ∧ (∃ s, double.sqrt (wide x) = some s ∧ floatToFloatBits .f64 s .f32 = some (rtv x)) ∧ -45 ≤ k ∧ k ≤ 110 ∧ 16777216 ≤ evenOf n r ∧ evenOf n r ≤ 33554432 ∧ evenOf n r % 2 = 0 := by
  obtain ⟨t, h1, h2, h3, h4⟩ := hF
  obtain ⟨⟨s, hs, hc⟩, rest⟩ := impl_root hx hm h1 h2 h3 h4 hr
  have e : rtv x = rootW k (evenOf n r) := by unfold rtv; rw [hs, Option.getD_some, hc, Option.getD_some]
  refine ⟨e, ⟨s, hs, ?_⟩, rest⟩
  rw [hc, e]
theorem l01Root_pos (x m : Nat) (e : Int) (w : World) (hx : single.read x = .number false m e) (hm : m ≠ 0) : Calls Try.prog 79 #[.float .f32 x] w fun e' w' => e' = .returned (.float .f32 (rtv x)) ∧ w = w' :=
  (l01Root_any x m e w hx hm).mono fun e' w' ⟨k, n, r, hF, hr, he, hw⟩ => ⟨by rw [he, (rtv_is hx hm hF hr).1], hw⟩
theorem l01Root_zero (x : Nat) (w : World) (hx : (single.order x 0 == some .eq) = true) : Calls Try.prog 79 #[.float .f32 x] w fun e' w' => e' = .returned (.float .f32 0) ∧ w = w' := by
  have h : (FloatKind.f32.format.order x 0 == some .eq) = true := hx
  clear hx
  go_enter Try.func79, Try.ntmps79
  go_wp2
  go_ret
  exact ⟨rfl, rfl⟩

/-- A frame there is, for each positive number. -/
theorem frame_ex {m : Nat} (hm : m ≠ 0) (h1 : m < 16777216) (e : Int) : ∃ k n r, Framed m e k n ∧ isRoot n r := by
  obtain ⟨l1, l2⟩ := log2_bounds hm
  have hl : m.log2 < 24 := (Nat.log2_lt hm).2 h1
  obtain ⟨t, ht⟩ : ∃ t : Nat, (t : Int) % 2 = e % 2 ∧ 48 ≤ m.log2 + t ∧ m.log2 + t ≤ 49 := by
    rcases (by omega : (((48 - m.log2 : Nat) : Int) % 2 = e % 2) ∨ (((49 - m.log2 : Nat) : Int) % 2 = e % 2)) with h | h
    · exact ⟨48 - m.log2, h, by omega, by omega⟩
    · exact ⟨49 - m.log2, h, by omega, by omega⟩
  have n48 : 281474976710656 ≤ m * 2 ^ t := by
    have h2 : 2 ^ 48 ≤ 2 ^ (m.log2 + t) := Nat.pow_le_pow_right (by decide) ht.2.1
    rw [Nat.pow_add] at h2
    exact Nat.le_trans h2 (Nat.mul_le_mul_right _ l1)
  have n50 : m * 2 ^ t < 1125899906842624 := by
    have h2 : 2 ^ (m.log2 + 1 + t) ≤ 2 ^ 50 := Nat.pow_le_pow_right (by decide) (by omega)
    rw [Nat.pow_add] at h2
    exact Nat.lt_of_lt_of_le (Nat.mul_lt_mul_of_pos_right l2 (Nat.two_pow_pos _)) h2
  refine ⟨((t : Int) - e) / 2, m * 2 ^ t, Datum.rootFrom (m * 2 ^ t) 25 0, ⟨t, by omega, rfl, n48, n50⟩, rootFrom_is _ 25 0 (Nat.zero_le _) ?_⟩
  have h2 : 1125899906842624 = (0 + 2 ^ 25) * (0 + 2 ^ 25) := by decide
  rw [← h2]
  exact n50

theorem sqrt_run (args : Array Value) (w : World) : (callFunc 107 args).run Try.prog w = ((Extern.MathSqrt.sqrt args).run Try.prog w).andThen fun v w' => .ok (.value v) w' :=
  run_callFunc_extern Try.func107 (by kernel_rfl) (by kernel_rfl) (by kernel_rfl) (by kernel_rfl) args w
theorem sqrt_at {v s : Nat} (h : double.sqrt v = some s) (w : World) : (callFunc 107 #[.float .f64 v]).run Try.prog w = .ok (.value (.float .f64 s)) w := by
  rw [sqrt_run]
  have h' : FloatKind.f64.format.sqrt v = some s := h
  have e : Extern.MathSqrt.sqrt #[.float .f64 v] = (match FloatKind.f64.format.sqrt v with | some r => pure (.float .f64 r) | none => do pure (.float .f64 (← choose (.nanBits .f64 v v)))) := rfl
  rw [e, h']
  rfl
theorem mathSqrt_any {v s : Nat} (h : double.sqrt v = some s) (w : World) : Calls Try.prog 83 #[.float .f64 v] w fun e w' => e = .returned (.float .f64 s) ∧ w = w' := by
  have hs := fun w => sqrt_at h w
  clear h
  go_enter Try.func83, Try.ntmps83
  go_wp2_with (simp only [hs])
  go_ret
  exact ⟨rfl, rfl⟩
/-- The program's root at a word whose root double precision has. -/
theorem calcRoot_at (B : Nat) (c : Int) (x s r : Nat) (w : World) (h : CalcAt w B c) (hc : ∀ w, (convert 22 29 (.float .f32 x)).run Try.prog w = .ok (.float .f64 (wide x)) w) (hs : double.sqrt (wide x) = some s) (hr : floatToFloatBits .f64 s .f32 = some r) :
    Calls Try.prog 50 #[.pointer (some ⟨B, 0, none⟩), .float .f32 x] w (CalcPost B (stpC c r) (stpV c r) w) := by
  have HC := Lib.hid h; clear h
  have hd := fun w => run_convert_float_float (P := Try.prog) w 29 22 .f64 .f32 s r (by rw [Try.underlying29]; rfl) Try.underlying22 hr
  have HS := Lib.hid hs; clear hs hr
  generalize wide x = v at *
  go_enter Try.func50, Try.ntmps50
  go_wp2_with (first | (go_at_call 83; refine (mathSqrt_any HS.out _).mono ?_; rintro e w' ⟨rfl, rfl⟩) | (go_at_call 82; refine (round_any B c r _ HC.out).mono ?_; rintro e w2 ⟨rfl, hc2, hg⟩) | (simp only [hc]) | (simp only [hd]))
  go_ret
  exact ⟨rfl, hc2, hg⟩
theorem calcRoot_pos (B : Nat) (c : Int) (x m : Nat) (e : Int) (w : World) (h : CalcAt w B c) (hx : single.read x = .number false m e) (hm : m ≠ 0) :
    Calls Try.prog 50 #[.pointer (some ⟨B, 0, none⟩), .float .f32 x] w (CalcPost B (stpC c (rtv x)) (stpV c (rtv x)) w) := by
  obtain ⟨k, n, r, hF, hr⟩ := frame_ex hm (num32 hx).1 e
  obtain ⟨_, ⟨s, hs, hc⟩, _⟩ := rtv_is hx hm hF hr
  exact calcRoot_at B c x s _ w h (conv_num hx) hs hc
theorem calcRoot_zero (B : Nat) (c : Int) (w : World) (h : CalcAt w B c) :
    Calls Try.prog 50 #[.pointer (some ⟨B, 0, none⟩), .float .f32 0] w (CalcPost B (stpC c 0) (stpV c 0) w) := by
  have hx : single.read 0 = .number false 0 (-149) := by decide +kernel
  have h0 : wide 0 = 0 := by decide +kernel
  exact calcRoot_at B c 0 0 0 w h (conv_num hx) (by rw [h0]; decide +kernel) (by decide +kernel)
/-- A root is a positive number. -/
theorem rtv_read {x m : Nat} {e : Int} (hx : single.read x = .number false m e) (hm : m ≠ 0) : ∃ m' e', single.read (rtv x) = .number false m' e' ∧ m' ≠ 0 ∧ -112 ≤ e' ∧ e' ≤ 50 := by
  obtain ⟨k, n, r, hF, hr⟩ := frame_ex hm (num32 hx).1 e
  obtain ⟨h, _, k1, k2, v1, v2, v3⟩ := rtv_is hx hm hF hr
  rw [h]
  generalize evenOf n r = v at *
  have hw : rootW k v = single.word false (rootW k v) := rfl
  have hb : rootW k v < 2139095040 := by unfold rootW; omega
  have hb2 : 8388608 ≤ rootW k v := by unfold rootW; omega
  rw [hw, read_word single false (by rw [s_sign]; omega), s_bin, s_inf, s_least, if_neg (by omega), if_pos hb]
  refine ⟨_, _, rfl, by omega, ?_, ?_⟩
  · unfold rootW; omega
  · unfold rootW; omega
end Go.Proofs.Ytkfahacnanlnfaa
namespace Go.Proofs.Ytkfahacnanlnfaa
open Go.RowKit Ieee

def hvH (c : Nat) : Nat := op32 .quo (op32 .add 1065353216 c) 1073741824
def hvC (c : Nat) : Nat := rtv (hvH c)
def hvD (c : Nat) : Nat := op32 .mul 1073741824 (hvC c)
def hvZ (c s : Nat) : Nat := op32 .quo s (hvD c)
/-- At most 1, and a number. -/
def le1 (x : Nat) : Bool := match single.read x with | .number _ m e => decide (m * 2 ^ (e + 149).toNat ≤ 2 ^ 149) | _ => false
/-- The word is kept when a calculation rounds it. -/
def kep (x : Nat) : Bool := fin32 x && (cz x == x)
def posB (x : Nat) : Bool := match single.read x with | .number false (_ + 1) _ => true | _ => false
theorem le1_lim {x : Nat} (h : le1 x = true) : lim single 0 x := by
  unfold le1 at h
  split at h
  · rename_i s m e hr
    have h1 := (num32 hr).2.1
    exact ⟨s, m, e, hr, (e + 149).toNat, 149, by omega, of_decide_eq_true h⟩
  · cases h
def hvB (c s : Nat) : Bool := kep c && kep s && kep (op32 .add 1065353216 c) && (floatBits .quo .f32 (op32 .add 1065353216 c) 1073741824 == some (hvH c)) && kep (hvH c) && posB (hvH c) && kep (hvC c) &&
  kep (hvD c) && (op32 .add (hvC c) (hvC c) == hvD c) && posB (hvD c) && (floatBits .quo .f32 s (hvD c) == some (hvZ c s)) && kep (hvZ c s) && le1 (hvC c) && le1 (hvZ c s)
def hv : Nat → Nat × Nat
  | 0 => (0, 1065353216)
  | k + 1 => (hvC (hv k).1, hvZ (hv k).1 (hv k).2)
theorem hs0 : (hvC 0, hvZ 0 1065353216) = (1060439283, 1060439283) ∧ hvB 0 1065353216 = true := by decide +kernel
theorem hs1 : (hvC 1060439283, hvZ 1060439283 1060439283) = (1064076127, 1053028117) ∧ hvB 1060439283 1060439283 = true := by decide +kernel
theorem hs2 : (hvC 1064076127, hvZ 1064076127 1053028117) = (1065030847, 1044891073) ∧ hvB 1064076127 1053028117 = true := by decide +kernel
theorem hs3 : (hvC 1065030847, hvZ 1065030847 1044891073) = (1065272429, 1036565813) ∧ hvB 1065030847 1044891073 = true := by decide +kernel
theorem hs4 : (hvC 1065272429, hvZ 1065272429 1036565813) = (1065333007, 1028193071) ∧ hvB 1065272429 1036565813 = true := by decide +kernel
theorem hs5 : (hvC 1065333007, hvZ 1065333007 1028193071) = (1065348163, 1019808431) ∧ hvB 1065333007 1028193071 = true := by decide +kernel
theorem hs6 : (hvC 1065348163, hvZ 1065348163 1019808431) = (1065351953, 1011420815) ∧ hvB 1065348163 1019808431 = true := by decide +kernel
theorem hs7 : (hvC 1065351953, hvZ 1065351953 1011420815) = (1065352900, 1003032455) ∧ hvB 1065351953 1011420815 = true := by decide +kernel
theorem hs8 : (hvC 1065352900, hvZ 1065352900 1003032455) = (1065353137, 994643909) ∧ hvB 1065352900 1003032455 = true := by decide +kernel
theorem hs9 : (hvC 1065353137, hvZ 1065353137 994643909) = (1065353196, 986255317) ∧ hvB 1065353137 994643909 = true := by decide +kernel
theorem hs10 : (hvC 1065353196, hvZ 1065353196 986255317) = (1065353211, 977866713) ∧ hvB 1065353196 986255317 = true := by decide +kernel
theorem hs11 : (hvC 1065353211, hvZ 1065353211 977866713) = (1065353215, 969478106) ∧ hvB 1065353211 977866713 = true := by decide +kernel
theorem hs12 : (hvC 1065353215, hvZ 1065353215 969478106) = (1065353216, 961089498) ∧ hvB 1065353215 969478106 = true := by decide +kernel
theorem hs13 : (hvC 1065353216, hvZ 1065353216 961089498) = (1065353216, 952700890) ∧ hvB 1065353216 961089498 = true := by decide +kernel
theorem hs14 : (hvC 1065353216, hvZ 1065353216 952700890) = (1065353216, 944312282) ∧ hvB 1065353216 952700890 = true := by decide +kernel
theorem hs15 : (hvC 1065353216, hvZ 1065353216 944312282) = (1065353216, 935923674) ∧ hvB 1065353216 944312282 = true := by decide +kernel
theorem hs16 : (hvC 1065353216, hvZ 1065353216 935923674) = (1065353216, 927535066) ∧ hvB 1065353216 935923674 = true := by decide +kernel
theorem hs17 : (hvC 1065353216, hvZ 1065353216 927535066) = (1065353216, 919146458) ∧ hvB 1065353216 927535066 = true := by decide +kernel
theorem hs18 : (hvC 1065353216, hvZ 1065353216 919146458) = (1065353216, 910757850) ∧ hvB 1065353216 919146458 = true := by decide +kernel
theorem hs19 : (hvC 1065353216, hvZ 1065353216 910757850) = (1065353216, 902369242) ∧ hvB 1065353216 910757850 = true := by decide +kernel
theorem hs20 : (hvC 1065353216, hvZ 1065353216 902369242) = (1065353216, 893980634) ∧ hvB 1065353216 902369242 = true := by decide +kernel
theorem hs21 : (hvC 1065353216, hvZ 1065353216 893980634) = (1065353216, 885592026) ∧ hvB 1065353216 893980634 = true := by decide +kernel
theorem hs22 : (hvC 1065353216, hvZ 1065353216 885592026) = (1065353216, 877203418) ∧ hvB 1065353216 885592026 = true := by decide +kernel
theorem hs23 : (hvC 1065353216, hvZ 1065353216 877203418) = (1065353216, 868814810) ∧ hvB 1065353216 877203418 = true := by decide +kernel
theorem hv_all (k : Nat) (hk : k < 24) : hvB (hv k).1 (hv k).2 = true := by
  have e0 : hv 0 = (0, 1065353216) := rfl
  have e1 : hv 1 = (1060439283, 1060439283) := by
    show (hvC (hv 0).1, hvZ (hv 0).1 (hv 0).2) = _
    rw [e0]; exact hs0.1
  have e2 : hv 2 = (1064076127, 1053028117) := by
    show (hvC (hv 1).1, hvZ (hv 1).1 (hv 1).2) = _
    rw [e1]; exact hs1.1
  have e3 : hv 3 = (1065030847, 1044891073) := by
    show (hvC (hv 2).1, hvZ (hv 2).1 (hv 2).2) = _
    rw [e2]; exact hs2.1
  have e4 : hv 4 = (1065272429, 1036565813) := by
    show (hvC (hv 3).1, hvZ (hv 3).1 (hv 3).2) = _
    rw [e3]; exact hs3.1
  have e5 : hv 5 = (1065333007, 1028193071) := by
    show (hvC (hv 4).1, hvZ (hv 4).1 (hv 4).2) = _
    rw [e4]; exact hs4.1
  have e6 : hv 6 = (1065348163, 1019808431) := by
    show (hvC (hv 5).1, hvZ (hv 5).1 (hv 5).2) = _
    rw [e5]; exact hs5.1
  have e7 : hv 7 = (1065351953, 1011420815) := by
    show (hvC (hv 6).1, hvZ (hv 6).1 (hv 6).2) = _
    rw [e6]; exact hs6.1
  have e8 : hv 8 = (1065352900, 1003032455) := by
    show (hvC (hv 7).1, hvZ (hv 7).1 (hv 7).2) = _
    rw [e7]; exact hs7.1
  have e9 : hv 9 = (1065353137, 994643909) := by
    show (hvC (hv 8).1, hvZ (hv 8).1 (hv 8).2) = _
    rw [e8]; exact hs8.1
  have e10 : hv 10 = (1065353196, 986255317) := by
    show (hvC (hv 9).1, hvZ (hv 9).1 (hv 9).2) = _
    rw [e9]; exact hs9.1
  have e11 : hv 11 = (1065353211, 977866713) := by
    show (hvC (hv 10).1, hvZ (hv 10).1 (hv 10).2) = _
    rw [e10]; exact hs10.1
  have e12 : hv 12 = (1065353215, 969478106) := by
    show (hvC (hv 11).1, hvZ (hv 11).1 (hv 11).2) = _
    rw [e11]; exact hs11.1
  have e13 : hv 13 = (1065353216, 961089498) := by
    show (hvC (hv 12).1, hvZ (hv 12).1 (hv 12).2) = _
    rw [e12]; exact hs12.1
  have e14 : hv 14 = (1065353216, 952700890) := by
    show (hvC (hv 13).1, hvZ (hv 13).1 (hv 13).2) = _
    rw [e13]; exact hs13.1
  have e15 : hv 15 = (1065353216, 944312282) := by
    show (hvC (hv 14).1, hvZ (hv 14).1 (hv 14).2) = _
    rw [e14]; exact hs14.1
  have e16 : hv 16 = (1065353216, 935923674) := by
    show (hvC (hv 15).1, hvZ (hv 15).1 (hv 15).2) = _
    rw [e15]; exact hs15.1
  have e17 : hv 17 = (1065353216, 927535066) := by
    show (hvC (hv 16).1, hvZ (hv 16).1 (hv 16).2) = _
    rw [e16]; exact hs16.1
  have e18 : hv 18 = (1065353216, 919146458) := by
    show (hvC (hv 17).1, hvZ (hv 17).1 (hv 17).2) = _
    rw [e17]; exact hs17.1
  have e19 : hv 19 = (1065353216, 910757850) := by
    show (hvC (hv 18).1, hvZ (hv 18).1 (hv 18).2) = _
    rw [e18]; exact hs18.1
  have e20 : hv 20 = (1065353216, 902369242) := by
    show (hvC (hv 19).1, hvZ (hv 19).1 (hv 19).2) = _
    rw [e19]; exact hs19.1
  have e21 : hv 21 = (1065353216, 893980634) := by
    show (hvC (hv 20).1, hvZ (hv 20).1 (hv 20).2) = _
    rw [e20]; exact hs20.1
  have e22 : hv 22 = (1065353216, 885592026) := by
    show (hvC (hv 21).1, hvZ (hv 21).1 (hv 21).2) = _
    rw [e21]; exact hs21.1
  have e23 : hv 23 = (1065353216, 877203418) := by
    show (hvC (hv 22).1, hvZ (hv 22).1 (hv 22).2) = _
    rw [e22]; exact hs22.1
  have e24 : hv 24 = (1065353216, 868814810) := by
    show (hvC (hv 23).1, hvZ (hv 23).1 (hv 23).2) = _
    rw [e23]; exact hs23.1
  match k, hk with
  | 0, _ => rw [e0]; exact hs0.2
  | 1, _ => rw [e1]; exact hs1.2
  | 2, _ => rw [e2]; exact hs2.2
  | 3, _ => rw [e3]; exact hs3.2
  | 4, _ => rw [e4]; exact hs4.2
  | 5, _ => rw [e5]; exact hs5.2
  | 6, _ => rw [e6]; exact hs6.2
  | 7, _ => rw [e7]; exact hs7.2
  | 8, _ => rw [e8]; exact hs8.2
  | 9, _ => rw [e9]; exact hs9.2
  | 10, _ => rw [e10]; exact hs10.2
  | 11, _ => rw [e11]; exact hs11.2
  | 12, _ => rw [e12]; exact hs12.2
  | 13, _ => rw [e13]; exact hs13.2
  | 14, _ => rw [e14]; exact hs14.2
  | 15, _ => rw [e15]; exact hs15.2
  | 16, _ => rw [e16]; exact hs16.2
  | 17, _ => rw [e17]; exact hs17.2
  | 18, _ => rw [e18]; exact hs18.2
  | 19, _ => rw [e19]; exact hs19.2
  | 20, _ => rw [e20]; exact hs20.2
  | 21, _ => rw [e21]; exact hs21.2
  | 22, _ => rw [e22]; exact hs22.2
  | 23, _ => rw [e23]; exact hs23.2
  | k + 24, hk => exact absurd hk (by omega)
/-- What the numbers of so many halvings are. -/
def Hv (c s : Nat) : Prop := (fin32 c = true ∧ cz c = c ∧ lim single 0 c) ∧ (fin32 s = true ∧ cz s = s ∧ lim single 0 s)
theorem kep_parts {x : Nat} (h : kep x = true) : fin32 x = true ∧ cz x = x := by
  unfold kep at h
  simpa using h
theorem hv_ok (k : Nat) (hk : k ≤ 24) : Hv (hv k).1 (hv k).2 := by
  match k, hk with
  | 0, _ => exact ⟨⟨by decide +kernel, by decide +kernel, le1_lim (by decide +kernel)⟩, ⟨by decide +kernel, by decide +kernel, le1_lim (by decide +kernel)⟩⟩
  | k + 1, hk =>
    have h := hv_all k (by omega)
    unfold hvB at h
    simp only [Bool.and_eq_true] at h
    obtain ⟨⟨⟨⟨⟨⟨⟨⟨⟨⟨⟨⟨⟨h1, h2⟩, h3⟩, h4⟩, h5⟩, h6⟩, h7⟩, h8⟩, h9⟩, h10⟩, h11⟩, h12⟩, h13⟩, h14⟩ := h
    exact ⟨⟨(kep_parts h7).1, (kep_parts h7).2, le1_lim h13⟩, ⟨(kep_parts h12).1, (kep_parts h12).2, le1_lim h14⟩⟩
end Go.Proofs.Ytkfahacnanlnfaa
namespace Go.Proofs.Ytkfahacnanlnfaa
open Go.RowKit Ieee

/-- m * 2^e is at least 2^K. -/
def ge2 (m : Nat) (e K : Int) : Prop := ∃ a b : Nat, (a : Int) - b = e - K ∧ 2 ^ b ≤ m * 2 ^ a
theorem ge2_at {m a b : Nat} {e K : Int} (h : ge2 m e K) (hd : (a : Int) - b = e - K) : 2 ^ b ≤ m * 2 ^ a := by
  obtain ⟨c, d, h1, h2⟩ := h
  rcases Nat.le_total a c with h | h
  · obtain ⟨k, rfl⟩ := Nat.le.dest h
    have : d = b + k := by omega
    subst this
    rw [Nat.pow_add, Nat.pow_add, ← Nat.mul_assoc] at h2
    exact Nat.le_of_mul_le_mul_right h2 (Nat.two_pow_pos k)
  · obtain ⟨k, rfl⟩ := Nat.le.dest h
    have : b = d + k := by omega
    subst this
    rw [Nat.pow_add, Nat.pow_add, ← Nat.mul_assoc]
    exact Nat.mul_le_mul_right _ h2
theorem ge2_pos {m : Nat} {e K : Int} (h : ge2 m e K) : m ≠ 0 := by
  rintro rfl
  obtain ⟨a, b, _, h⟩ := h
  rw [Nat.zero_mul] at h
  have := Nat.two_pow_pos b
  omega
/-- A rounding does not pass a power of two, from either side. -/
theorem nearest_both (f : Format) {s : Bool} {m : Nat} {e K : Int} (h : le2 m e K) (h1 : f.leastPlace ≤ K) (h2 : 2 * f.binade < f.infRung) (h3 : ((K - f.leastPlace).toNat - f.fractionBits + 1) * f.binade < f.infRung) :
    ∃ m' e', f.read (f.nearest s m e) = .number s m' e' ∧ le2 m' e' K ∧ ∀ J, f.leastPlace ≤ J → ge2 m e J → ge2 m' e' J := by
  have hp : 0 < f.binade := Nat.two_pow_pos _
  by_cases hm : m = 0
  · subst hm
    refine ⟨0, f.leastPlace, ?_, le2_zero _ _, fun J _ h => absurd rfl (ge2_pos h)⟩
    have : f.nearest s 0 e = f.word s 0 := by simp [Format.nearest]
    rw [this, read_word f s (Nat.two_pow_pos _), if_pos hp]
  obtain ⟨l1, l2⟩ := log2_bounds hm
  have hlK : e + m.log2 ≤ K := by
    rcases (by omega : K < e + m.log2 ∨ e + m.log2 ≤ K) with hx | hx
    · exfalso
      obtain ⟨a, b, hab, hle⟩ := h
      have : 2 ^ (m.log2 + a) ≤ 2 ^ b := by rw [Nat.pow_add]; exact Nat.le_trans (Nat.mul_le_mul_right _ l1) hle
      have : m.log2 + a ≤ b := (Nat.pow_le_pow_iff_right (by decide)).1 this
      omega
    · exact hx
  unfold Format.nearest
  rw [if_neg hm]
  dsimp only
  obtain ⟨last, hlast⟩ : ∃ l, max (e + (m.log2 : Int) - (f.fractionBits : Int)) f.leastPlace = l := ⟨_, rfl⟩
  rw [hlast]
  obtain ⟨g, hg⟩ : ∃ g, (last - f.leastPlace).toNat = g := ⟨_, rfl⟩
  rw [hg]
  obtain ⟨k, hk⟩ : ∃ k, Toward.even.cut s (m <<< (e - last).toNat) (last - e).toNat = k := ⟨_, rfl⟩
  rw [hk]
  rw [Nat.shiftLeft_eq] at hk
  have hB : f.binade = 2 ^ f.fractionBits := rfl
  -- what is kept
  have key : k ≤ 2 * f.binade ∧ (g = 0 ∨ f.binade ≤ k) ∧ k ≤ 2 ^ (K - last).toNat ∧ ∀ J, f.leastPlace ≤ J → ge2 m e J → 2 ^ (J - f.leastPlace).toNat ≤ k * 2 ^ g := by
    rcases Int.le_total last e with hle | hle
    · have e1 : (last - e).toNat = 0 := by omega
      rw [e1, cut_zero] at hk
      subst hk
      obtain ⟨a, ha⟩ : ∃ a, (e - last).toNat = a := ⟨_, rfl⟩
      rw [ha]
      refine ⟨?_, ?_, ?_, ?_⟩
      · rw [hB, ← Nat.pow_succ']
        have h5 : m * 2 ^ a ≤ 2 ^ (m.log2 + 1) * 2 ^ a := Nat.mul_le_mul_right _ (Nat.le_of_lt l2)
        rw [← Nat.pow_add] at h5
        exact Nat.le_trans h5 (Nat.pow_le_pow_right (by decide) (by omega))
      · rcases Nat.eq_zero_or_pos g with h6 | h6
        · exact .inl h6
        · refine .inr ?_
          have h5 : 2 ^ m.log2 * 2 ^ a ≤ m * 2 ^ a := Nat.mul_le_mul_right _ l1
          rw [← Nat.pow_add] at h5
          rw [hB]
          exact Nat.le_trans (Nat.pow_le_pow_right (by decide) (by omega)) h5
      · exact le2_at h (by omega)
      · intro J hJ hg2
        rw [Nat.mul_assoc, ← Nat.pow_add]
        exact ge2_at hg2 (by omega)
    · have e1 : (e - last).toNat = 0 := by omega
      rw [e1, Nat.pow_zero, Nat.mul_one] at hk
      obtain ⟨d, hd⟩ : ∃ d, (last - e).toNat = d := ⟨_, rfl⟩
      rw [hd] at hk
      subst hk
      refine ⟨cut_le ?_, ?_, cut_le ?_, ?_⟩
      · rw [hB, ← Nat.pow_succ', ← Nat.pow_add]
        exact Nat.le_trans (Nat.le_of_lt l2) (Nat.pow_le_pow_right (by decide) (by omega))
      · rcases Nat.eq_zero_or_pos g with h6 | h6
        · exact .inl h6
        · refine .inr (cut_ge (by omega) ?_)
          rw [hB, ← Nat.pow_add]
          exact Nat.le_trans (Nat.pow_le_pow_right (by decide) (by omega)) l1
      · rw [← Nat.pow_add]
        have := le2_at (a := 0) (b := (K - last).toNat + d) h (by omega)
        simpa using this
      · intro J hJ hg2
        have hJl : J ≤ e + m.log2 := by
          rcases (by omega : e + m.log2 < J ∨ J ≤ e + m.log2) with hx | hx
          · exfalso
            obtain ⟨a, b, hab, hge⟩ := hg2
            have h5 : m * 2 ^ a < 2 ^ (m.log2 + 1 + a) := by rw [Nat.pow_add]; exact Nat.mul_lt_mul_of_pos_right l2 (Nat.two_pow_pos _)
            have h6 : 2 ^ b < 2 ^ (m.log2 + 1 + a) := Nat.lt_of_le_of_lt hge h5
            have h7 : b < m.log2 + 1 + a := (Nat.pow_lt_pow_iff_right (by decide)).1 h6
            omega
          · exact hx
        rcases (by omega : J < last ∨ last ≤ J) with hx | hx
        · have hk2 : f.binade ≤ Toward.even.cut s m d := cut_ge (by omega) (by
            rw [hB, ← Nat.pow_add]
            exact Nat.le_trans (Nat.pow_le_pow_right (by decide) (by omega)) l1)
          exact Nat.le_trans (Nat.pow_le_pow_right (by decide) (show (J - f.leastPlace).toNat ≤ g by omega)) (Nat.le_mul_of_pos_left _ (Nat.lt_of_lt_of_le hp hk2))
        · have h8 : 2 ^ (J - last).toNat ≤ Toward.even.cut s m d := cut_ge (by omega) (by
            rw [← Nat.pow_add]
            have := ge2_at (a := 0) (b := (J - last).toNat + d) hg2 (by omega)
            simpa using this)
          have h9 : (J - f.leastPlace).toNat = (J - last).toNat + g := by omega
          rw [h9, Nat.pow_add]
          exact Nat.mul_le_mul_right _ h8
  obtain ⟨k1, k2, k3, k4⟩ := key
  have hT : k * 2 ^ g ≤ 2 ^ (K - f.leastPlace).toNat := by
    have : (K - f.leastPlace).toNat = (K - last).toNat + g := by omega
    rw [this, Nat.pow_add]
    exact Nat.mul_le_mul_right _ k3
  obtain ⟨T, hTT⟩ : ∃ T, (K - f.leastPlace).toNat = T := ⟨_, rfl⟩
  rw [hTT] at hT h3
  have hi : g * f.binade + k < f.infRung := by
    rcases k2 with rfl | k2
    · omega
    · have h5 : 2 ^ (f.fractionBits + g) ≤ 2 ^ T := by rw [Nat.pow_add]; exact Nat.le_trans (Nat.mul_le_mul_right _ k2) hT
      have h6 : f.fractionBits + g ≤ T := (Nat.pow_le_pow_iff_right (by decide)).1 h5
      refine Nat.lt_of_le_of_lt ?_ h3
      rcases Nat.lt_or_ge (f.fractionBits + g) T with h7 | h7
      · have : (g + 2) * f.binade ≤ (T - f.fractionBits + 1) * f.binade := Nat.mul_le_mul_right _ (by omega)
        rw [Nat.add_mul] at this
        omega
      · have h8 : k ≤ f.binade := by
          rw [show T = f.fractionBits + g by omega, Nat.pow_add] at hT
          exact Nat.le_of_mul_le_mul_right hT (Nat.two_pow_pos g)
        rw [show T - f.fractionBits + 1 = g + 1 by omega, Nat.add_mul]
        omega
  rw [Nat.min_eq_left (Nat.le_of_lt hi)]
  obtain ⟨m', d, hr, hv⟩ := rung_read f s k1 k2 hi
  refine ⟨m', _, hr, ⟨d, T, by omega, ?_⟩, fun J hJ hg2 => ⟨d, (J - f.leastPlace).toNat, by omega, ?_⟩⟩
  · rw [hv]
    exact hT
  · rw [hv]
    exact k4 J hJ hg2

end Go.Proofs.Ytkfahacnanlnfaa
