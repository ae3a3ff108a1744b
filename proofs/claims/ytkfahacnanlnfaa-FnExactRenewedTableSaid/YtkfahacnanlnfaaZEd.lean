/- The numbers of halvings. No program in sight. -/
import Derived.Test.YtkfahacnanlnfaaZEb
import Derived.Test.YtkfahacnanlnfaaZMc
namespace Go.Proofs.Ytkfahacnanlnfaa
open Go.RowKit Ieee

def hvH (c : Nat) : Nat := op32 .quo (op32 .add 1065353216 c) 1073741824
def hvC (c : Nat) : Nat := rtv (hvH c)
def hvD (c : Nat) : Nat := op32 .mul 1073741824 (hvC c)
def hvZ (c s : Nat) : Nat := op32 .quo s (hvD c)
/-- At most 1, and a number. -/
def le1 (x : Nat) : Bool := match single.read x with | .number _ m e => decide (m * 2 ^ (e + 149).toNat ≤ 2 ^ 149) | _ => false
/-- The word is kept when a calculation rounds it. -/
def kep (x : Nat) : Bool := fin32 x && (cz x == x)
def posB (x : Nat) : Bool := match single.read x with | .number false (_ + 1) _ => true | _ => false
theorem le1_lim {x : Nat} (h : le1 x = true) : lim single 0 x := by
  unfold le1 at h
  split at h
  · rename_i s m e hr
    have h1 := (num32 hr).2.1
    exact ⟨s, m, e, hr, (e + 149).toNat, 149, by omega, of_decide_eq_true h⟩
  · cases h
def hvB (c s : Nat) : Bool := kep c && kep s && kep (op32 .add 1065353216 c) && (floatBits .quo .f32 (op32 .add 1065353216 c) 1073741824 == some (hvH c)) && kep (hvH c) && posB (hvH c) && kep (hvC c) &&
  kep (hvD c) && (op32 .add (hvC c) (hvC c) == hvD c) && posB (hvD c) && (floatBits .quo .f32 s (hvD c) == some (hvZ c s)) && kep (hvZ c s) && le1 (hvC c) && le1 (hvZ c s)
def hv : Nat → Nat × Nat
  | 0 => (0, 1065353216)
  | k + 1 => (hvC (hv k).1, hvZ (hv k).1 (hv k).2)
theorem hs0 : (hvC 0, hvZ 0 1065353216) = (1060439283, 1060439283) ∧ hvB 0 1065353216 = true := by decide +kernel
theorem hs1 : (hvC 1060439283, hvZ 1060439283 1060439283) = (1064076127, 1053028117) ∧ hvB 1060439283 1060439283 = true := by decide +kernel
theorem hs2 : (hvC 1064076127, hvZ 1064076127 1053028117) = (1065030847, 1044891073) ∧ hvB 1064076127 1053028117 = true := by decide +kernel
theorem hs3 : (hvC 1065030847, hvZ 1065030847 1044891073) = (1065272429, 1036565813) ∧ hvB 1065030847 1044891073 = true := by decide +kernel
theorem hs4 : (hvC 1065272429, hvZ 1065272429 1036565813) = (1065333007, 1028193071) ∧ hvB 1065272429 1036565813 = true := by decide +kernel
theorem hs5 : (hvC 1065333007, hvZ 1065333007 1028193071) = (1065348163, 1019808431) ∧ hvB 1065333007 1028193071 = true := by decide +kernel
theorem hs6 : (hvC 1065348163, hvZ 1065348163 1019808431) = (1065351953, 1011420815) ∧ hvB 1065348163 1019808431 = true := by decide +kernel
theorem hs7 : (hvC 1065351953, hvZ 1065351953 1011420815) = (1065352900, 1003032455) ∧ hvB 1065351953 1011420815 = true := by decide +kernel
theorem hs8 : (hvC 1065352900, hvZ 1065352900 1003032455) = (1065353137, 994643909) ∧ hvB 1065352900 1003032455 = true := by decide +kernel
theorem hs9 : (hvC 1065353137, hvZ 1065353137 994643909) = (1065353196, 986255317) ∧ hvB 1065353137 994643909 = true := by decide +kernel
theorem hs10 : (hvC 1065353196, hvZ 1065353196 986255317) = (1065353211, 977866713) ∧ hvB 1065353196 986255317 = true := by decide +kernel
theorem hs11 : (hvC 1065353211, hvZ 1065353211 977866713) = (1065353215, 969478106) ∧ hvB 1065353211 977866713 = true := by decide +kernel
theorem hs12 : (hvC 1065353215, hvZ 1065353215 969478106) = (1065353216, 961089498) ∧ hvB 1065353215 969478106 = true := by decide +kernel
theorem hs13 : (hvC 1065353216, hvZ 1065353216 961089498) = (1065353216, 952700890) ∧ hvB 1065353216 961089498 = true := by decide +kernel
theorem hs14 : (hvC 1065353216, hvZ 1065353216 952700890) = (1065353216, 944312282) ∧ hvB 1065353216 952700890 = true := by decide +kernel
theorem hs15 : (hvC 1065353216, hvZ 1065353216 944312282) = (1065353216, 935923674) ∧ hvB 1065353216 944312282 = true := by decide +kernel
theorem hs16 : (hvC 1065353216, hvZ 1065353216 935923674) = (1065353216, 927535066) ∧ hvB 1065353216 935923674 = true := by decide +kernel
theorem hs17 : (hvC 1065353216, hvZ 1065353216 927535066) = (1065353216, 919146458) ∧ hvB 1065353216 927535066 = true := by decide +kernel
theorem hs18 : (hvC 1065353216, hvZ 1065353216 919146458) = (1065353216, 910757850) ∧ hvB 1065353216 919146458 = true := by decide +kernel
theorem hs19 : (hvC 1065353216, hvZ 1065353216 910757850) = (1065353216, 902369242) ∧ hvB 1065353216 910757850 = true := by decide +kernel
theorem hs20 : (hvC 1065353216, hvZ 1065353216 902369242) = (1065353216, 893980634) ∧ hvB 1065353216 902369242 = true := by decide +kernel
theorem hs21 : (hvC 1065353216, hvZ 1065353216 893980634) = (1065353216, 885592026) ∧ hvB 1065353216 893980634 = true := by decide +kernel
theorem hs22 : (hvC 1065353216, hvZ 1065353216 885592026) = (1065353216, 877203418) ∧ hvB 1065353216 885592026 = true := by decide +kernel
theorem hs23 : (hvC 1065353216, hvZ 1065353216 877203418) = (1065353216, 868814810) ∧ hvB 1065353216 877203418 = true := by decide +kernel
theorem hv_all (k : Nat) (hk : k < 24) : hvB (hv k).1 (hv k).2 = true := by
  have e0 : hv 0 = (0, 1065353216) := rfl
  have e1 : hv 1 = (1060439283, 1060439283) := by
    show (hvC (hv 0).1, hvZ (hv 0).1 (hv 0).2) = _
    rw [e0]; exact hs0.1
  have e2 : hv 2 = (1064076127, 1053028117) := by
    show (hvC (hv 1).1, hvZ (hv 1).1 (hv 1).2) = _
    rw [e1]; exact hs1.1
  have e3 : hv 3 = (1065030847, 1044891073) := by
    show (hvC (hv 2).1, hvZ (hv 2).1 (hv 2).2) = _
    rw [e2]; exact hs2.1
  have e4 : hv 4 = (1065272429, 1036565813) := by
    show (hvC (hv 3).1, hvZ (hv 3).1 (hv 3).2) = _
    rw [e3]; exact hs3.1
  have e5 : hv 5 = (1065333007, 1028193071) := by
    show (hvC (hv 4).1, hvZ (hv 4).1 (hv 4).2) = _
    rw [e4]; exact hs4.1
  have e6 : hv 6 = (1065348163, 1019808431) := by
    show (hvC (hv 5).1, hvZ (hv 5).1 (hv 5).2) = _
    rw [e5]; exact hs5.1
  have e7 : hv 7 = (1065351953, 1011420815) := by
    show (hvC (hv 6).1, hvZ (hv 6).1 (hv 6).2) = _
    rw [e6]; exact hs6.1
  have e8 : hv 8 = (1065352900, 1003032455) := by
    show (hvC (hv 7).1, hvZ (hv 7).1 (hv 7).2) = _
    rw [e7]; exact hs7.1
  have e9 : hv 9 = (1065353137, 994643909) := by
    show (hvC (hv 8).1, hvZ (hv 8).1 (hv 8).2) = _
    rw [e8]; exact hs8.1
  have e10 : hv 10 = (1065353196, 986255317) := by
    show (hvC (hv 9).1, hvZ (hv 9).1 (hv 9).2) = _
    rw [e9]; exact hs9.1
  have e11 : hv 11 = (1065353211, 977866713) := by
    show (hvC (hv 10).1, hvZ (hv 10).1 (hv 10).2) = _
    rw [e10]; exact hs10.1
  have e12 : hv 12 = (1065353215, 969478106) := by
    show (hvC (hv 11).1, hvZ (hv 11).1 (hv 11).2) = _
    rw [e11]; exact hs11.1
  have e13 : hv 13 = (1065353216, 961089498) := by
    show (hvC (hv 12).1, hvZ (hv 12).1 (hv 12).2) = _
    rw [e12]; exact hs12.1
  have e14 : hv 14 = (1065353216, 952700890) := by
    show (hvC (hv 13).1, hvZ (hv 13).1 (hv 13).2) = _
    rw [e13]; exact hs13.1
  have e15 : hv 15 = (1065353216, 944312282) := by
    show (hvC (hv 14).1, hvZ (hv 14).1 (hv 14).2) = _
    rw [e14]; exact hs14.1
  have e16 : hv 16 = (1065353216, 935923674) := by
    show (hvC (hv 15).1, hvZ (hv 15).1 (hv 15).2) = _
    rw [e15]; exact hs15.1
  have e17 : hv 17 = (1065353216, 927535066) := by
    show (hvC (hv 16).1, hvZ (hv 16).1 (hv 16).2) = _
    rw [e16]; exact hs16.1
  have e18 : hv 18 = (1065353216, 919146458) := by
    show (hvC (hv 17).1, hvZ (hv 17).1 (hv 17).2) = _
    rw [e17]; exact hs17.1
  have e19 : hv 19 = (1065353216, 910757850) := by
    show (hvC (hv 18).1, hvZ (hv 18).1 (hv 18).2) = _
    rw [e18]; exact hs18.1
  have e20 : hv 20 = (1065353216, 902369242) := by
    show (hvC (hv 19).1, hvZ (hv 19).1 (hv 19).2) = _
    rw [e19]; exact hs19.1
  have e21 : hv 21 = (1065353216, 893980634) := by
    show (hvC (hv 20).1, hvZ (hv 20).1 (hv 20).2) = _
    rw [e20]; exact hs20.1
  have e22 : hv 22 = (1065353216, 885592026) := by
    show (hvC (hv 21).1, hvZ (hv 21).1 (hv 21).2) = _
    rw [e21]; exact hs21.1
  have e23 : hv 23 = (1065353216, 877203418) := by
    show (hvC (hv 22).1, hvZ (hv 22).1 (hv 22).2) = _
    rw [e22]; exact hs22.1
  have e24 : hv 24 = (1065353216, 868814810) := by
    show (hvC (hv 23).1, hvZ (hv 23).1 (hv 23).2) = _
    rw [e23]; exact hs23.1
  match k, hk with
  | 0, _ => rw [e0]; exact hs0.2
  | 1, _ => rw [e1]; exact hs1.2
  | 2, _ => rw [e2]; exact hs2.2
  | 3, _ => rw [e3]; exact hs3.2
  | 4, _ => rw [e4]; exact hs4.2
  | 5, _ => rw [e5]; exact hs5.2
  | 6, _ => rw [e6]; exact hs6.2
  | 7, _ => rw [e7]; exact hs7.2
  | 8, _ => rw [e8]; exact hs8.2
  | 9, _ => rw [e9]; exact hs9.2
  | 10, _ => rw [e10]; exact hs10.2
  | 11, _ => rw [e11]; exact hs11.2
  | 12, _ => rw [e12]; exact hs12.2
  | 13, _ => rw [e13]; exact hs13.2
  | 14, _ => rw [e14]; exact hs14.2
  | 15, _ => rw [e15]; exact hs15.2
  | 16, _ => rw [e16]; exact hs16.2
  | 17, _ => rw [e17]; exact hs17.2
  | 18, _ => rw [e18]; exact hs18.2
  | 19, _ => rw [e19]; exact hs19.2
  | 20, _ => rw [e20]; exact hs20.2
  | 21, _ => rw [e21]; exact hs21.2
  | 22, _ => rw [e22]; exact hs22.2
  | 23, _ => rw [e23]; exact hs23.2
  | k + 24, hk => exact absurd hk (by omega)
/-- What the numbers of so many halvings are. -/
def Hv (c s : Nat) : Prop := (fin32 c = true ∧ cz c = c ∧ lim single 0 c) ∧ (fin32 s = true ∧ cz s = s ∧ lim single 0 s)
theorem kep_parts {x : Nat} (h : kep x = true) : fin32 x = true ∧ cz x = x := by
  unfold kep at h
  simpa using h
theorem hv_ok (k : Nat) (hk : k ≤ 24) : Hv (hv k).1 (hv k).2 := by
  match k, hk with
  | 0, _ => exact ⟨⟨by decide +kernel, by decide +kernel, le1_lim (by decide +kernel)⟩, ⟨by decide +kernel, by decide +kernel, le1_lim (by decide +kernel)⟩⟩
  | k + 1, hk =>
    have h := hv_all k (by omega)
    unfold hvB at h
    simp only [Bool.and_eq_true] at h
    obtain ⟨⟨⟨⟨⟨⟨⟨⟨⟨⟨⟨⟨⟨h1, h2⟩, h3⟩, h4⟩, h5⟩, h6⟩, h7⟩, h8⟩, h9⟩, h10⟩, h11⟩, h12⟩, h13⟩, h14⟩ := h
    exact ⟨⟨(kep_parts h7).1, (kep_parts h7).2, le1_lim h13⟩, ⟨(kep_parts h12).1, (kep_parts h12).2, le1_lim h14⟩⟩
end Go.Proofs.Ytkfahacnanlnfaa
