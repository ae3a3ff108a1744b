/- The inner product, the implementation's side. -/
import Derived.Test.YtkfahacnanlnfaaZT
import Derived.Deep.RegionWith
namespace Go.Proofs.Ytkfahacnanlnfaa
open Go.RowKit Ieee

theorem fin_zero : fin32 0 = true := by decide +kernel
theorem fin_stpV (c : Int) (x : Nat) : fin32 (stpV c x) = true := by
  unfold stpV
  cases hf : fin32 x with
  | false => exact fin_zero
  | true =>
    simp only [if_true]
    split
    · exact (fin_cz x).trans hf
    · exact fin_zero
/-- One step of the sum: the code and the value behind 'add(s, mul(x, y))'. -/
def accC (c : Int) (v x y : Nat) : Int := stpC (stpC c (op32 .mul x y)) (op32 .add v (stpV c (op32 .mul x y)))
def accV (c : Int) (v x y : Nat) : Nat := stpV (stpC c (op32 .mul x y)) (op32 .add v (stpV c (op32 .mul x y)))

theorem finV_and {a b c : Nat} (h : finV a b c = true) : fin32 a = true ∧ fin32 b = true ∧ fin32 c = true := by
  have e0 : finV a b c = (fin32 a && (fin32 b && fin32 c)) := by simp [finV]
  rw [e0] at h
  simpa using h
def dotC (a b c a' b' c' : Nat) : Int := accC (accC (stpC 0 (op32 .mul a a')) (stpV 0 (op32 .mul a a')) b b') (accV (stpC 0 (op32 .mul a a')) (stpV 0 (op32 .mul a a')) b b') c c'
def dotV (a b c a' b' c' : Nat) : Nat := accV (accC (stpC 0 (op32 .mul a a')) (stpV 0 (op32 .mul a a')) b b') (accV (stpC 0 (op32 .mul a a')) (stpV 0 (op32 .mul a a')) b b') c c'

def dS (a b c a' b' c' : Nat) : Nat → Int × Nat
  | 0 => (stpC 0 (op32 .mul a a'), stpV 0 (op32 .mul a a'))
  | 1 => (accC (stpC 0 (op32 .mul a a')) (stpV 0 (op32 .mul a a')) b b', accV (stpC 0 (op32 .mul a a')) (stpV 0 (op32 .mul a a')) b b')
  | _ => (dotC a b c a' b' c', dotV a b c a' b' c')
theorem dS_fin (a b c a' b' c' k : Nat) : fin32 (dS a b c a' b' c' k).2 = true := by
  match k with
  | 0 => exact fin_stpV _ _
  | 1 => exact fin_stpV _ _
  | _ + 2 => exact fin_stpV _ _
theorem dS_next (a b c a' b' c' k x y : Nat) (hk : k < 2) (hx : [a, b, c][k + 1]? = some x) (hy : [a', b', c'][k + 1]? = some y) :
    dS a b c a' b' c' (k + 1) = (accC (dS a b c a' b' c' k).1 (dS a b c a' b' c' k).2 x y, accV (dS a b c a' b' c' k).1 (dS a b c a' b' c' k).2 x y) := by
  match k, hk with
  | 0, _ => cases hx; cases hy; rfl
  | 1, _ => cases hx; cases hy; rfl
set_option maxHeartbeats 4000000 in
theorem dot_any (B : Nat) (a b c a' b' c' : Nat) (w : World) (h : CalcAt w B 0) (f0 : finV a b c = true) (f1 : finV a' b' c' = true) :
    Calls Try.prog 70 #[.pointer (some ⟨B, 0, none⟩), vec a b c, vec a' b' c'] w (CalcPost B (dotC a b c a' b' c') (dotV a b c a' b' c') w) := by
  obtain ⟨p0, p1, p2⟩ := finV_and f0
  obtain ⟨q0, q1, q2⟩ := finV_and f1
  clear f0 f1
  obtain ⟨X, Y, b0⟩ := boxes w a b c a' b' c'
  have W0 : CalcAt ((w.alloc (.cells #[.float .f32 a, .float .f32 b, .float .f32 c] 26)).alloc (.cells #[.float .f32 a', .float .f32 b', .float .f32 c'] 26)) B 0 := h.below b0 h.lt
  have hBl := h.lt
  have HC := Lib.hid W0; clear W0 h
  have hd0 : dS a b c a' b' c' 0 = (stpC 0 (op32 .mul a a'), stpV 0 (op32 .mul a a')) := rfl
  have hd2 : dS a b c a' b' c' 2 = (dotC a b c a' b' c', dotV a b c a' b' c') := rfl
  have hnx := dS_next a b c a' b' c'
  have hfin := dS_fin a b c a' b' c'
  generalize dS a b c a' b' c' = D at hd0 hd2 hnx hfin
  have hk : dotC a b c a' b' c' = (D 2).1 := by rw [hd2]
  have hv : dotV a b c a' b' c' = (D 2).2 := by rw [hd2]
  rw [hk, hv]
  clear hk hv hd2
  have hm : (stpC 0 (op32 .mul a a')) = (D 0).1 ∧ stpV 0 (op32 .mul a a') = (D 0).2 := by rw [hd0]; exact ⟨rfl, rfl⟩
  have HM := Lib.hid hm; clear hm hd0
  have HN := Lib.hid hnx; clear hnx
  have HF := Lib.hid hfin; clear hfin
  have P : ∀ (k x : Nat), [a, b, c][k]? = some x → fin32 x = true := by
    intro k x hx
    match k, hx with
    | 0, hx => cases hx; exact p0
    | 1, hx => cases hx; exact p1
    | 2, hx => cases hx; exact p2
  have Q : ∀ (k x : Nat), [a', b', c'][k]? = some x → fin32 x = true := by
    intro k x hx
    match k, hx with
    | 0, hx => cases hx; exact q0
    | 1, hx => cases hx; exact q1
    | 2, hx => cases hx; exact q2
  have HP := Lib.hid P; clear P
  have HQ := Lib.hid Q; clear Q
  unfold vec
  go_enter Try.func70, Try.ntmps70
  go_wp2_with fail
  refine (mul_any B 0 a a' _ HC.out p0 q0).mono ?_
  rintro e w1 ⟨rfl, hc1, g1⟩
  rw [HM.out.1] at hc1
  rw [HM.out.2]
  have X1 := Lib.hid (X.grown g1 (by intro e; cases e; omega))
  have Y1 := Lib.hid (Y.grown g1 (by intro e; cases e; omega))
  have C1 := Lib.hid hc1
  have G1 := Lib.hid ((toGrown b0 (some B)).trans g1)
  clear X Y hc1 g1 b0 p0 p1 p2 q0 q1 q2
  go_wp2
  go_loopw [7, 8] (fun t i wr => ∃ k : Nat, k ≤ 2 ∧ i = .int .i64 (k + 1 : Nat) ∧ t = .float .f32 (D k).2 ∧ CalcAt wr B (D k).1 ∧ Box3 wr w.heap.size a b c ∧ Box3 wr (w.heap.size + 1) a' b' c' ∧ w.grownBy wr (some B)) (fun _ i _ => 3 - (intOf i).toNat)
  case atStart => exact ⟨0, by omega, rfl, rfl, C1.out, X1.out, Y1.out, G1.out⟩
  case round =>
    obtain ⟨k, hk, rfl, rfl, hcw, hx, hy, hg⟩ := hrel
    clear C1 X1 Y1 G1
    by_cases hlt : k < 2
    · obtain ⟨x, hx0⟩ : ∃ x, [a, b, c][k + 1]? = some x := ⟨_, List.getElem?_eq_getElem (by simp; omega)⟩
      obtain ⟨y, hy0⟩ : ∃ x, [a', b', c'][k + 1]? = some x := ⟨_, List.getElem?_eq_getElem (by simp; omega)⟩
      obtain ⟨_, _, ex, _, cx⟩ := hx.frd _ _ hx0
      cases ex
      obtain ⟨_, _, ey, _, cy⟩ := hy.frd _ _ hy0
      cases ey
      have FX := HP.out _ _ hx0
      have FY := HQ.out _ _ hy0
      have NX := Lib.hid (HN.out k x y hlt hx0 hy0)
      clear hx0 hy0
      have X1 := Lib.hid hx; clear hx
      have Y1 := Lib.hid hy; clear hy
      have C1 := Lib.hid hcw; clear hcw
      have G1 := Lib.hid hg; clear hg
      simp only [Nat.zero_add] at cx cy
      go_wp2
      have hk1 : k + 1 < 3 := by omega
      have hk2 : ((k + 1 : Nat) : Int) < 3 := by omega
      have hk3 : (0 : Int) ≤ ((k + 1 : Nat) : Int) := by omega
      have hw : IntKind.i64.wrap (((k + 1 : Nat) : Int) + 1) = ((k + 1 : Nat) : Int) + 1 := by rw [IntKind.wrap_i64]; omega
      have hkt : (((k + 1 : Nat) : Int)).toNat = k + 1 := by omega
      have FD := HF.out k
      go_region_with (first | (go_at_call 52; refine (mul_any B (D k).1 x y _ ?_ FX FY).mono ?_; exact C1.out; rintro e w2 ⟨rfl, hc2, g2⟩; have C2 := Lib.hid hc2; have G2 := Lib.hid g2; clear hc2 g2) | (go_at_call 55; refine (add_any B (stpC (D k).1 (op32 .mul x y)) (D k).2 (stpV (D k).1 (op32 .mul x y)) _ C2.out FD (fin_stpV _ _)).mono ?_; rintro e w3 ⟨rfl, hc3, g3⟩; have C3 := Lib.hid hc3; have G3 := Lib.hid g3; clear hc3 g3))
      all_goals
        clear hw hkt hk1 hk2 hk3 cx cy FX FY FD
        go_wp2
        refine ⟨⟨k + 1, by omega, by go_num, ?_, ?_, ?_, ?_, ?_⟩, by simp [intOf]; omega⟩
        · rw [NX.out]; rfl
        · rw [NX.out]; exact C3.out
        · exact (Box3.grown (Box3.grown (w := wr) X1.out ⟨G2.out.os, G2.out.tape, G2.out.output, G2.out.size, G2.out.block⟩ (by intro e; cases e; omega)) G3.out (by intro e; cases e; omega))
        · exact (Box3.grown (Box3.grown (w := wr) Y1.out ⟨G2.out.os, G2.out.tape, G2.out.output, G2.out.size, G2.out.block⟩ (by intro e; cases e; omega)) G3.out (by intro e; cases e; omega))
        · exact (G1.out.trans ⟨G2.out.os, G2.out.tape, G2.out.output, G2.out.size, G2.out.block⟩).trans G3.out
    · obtain rfl : k = 2 := by omega
      have C1 := Lib.hid hcw; clear hcw
      have G1 := Lib.hid hg; clear hg
      go_wp2
      go_ret
      exact ⟨rfl, C1.out, G1.out⟩
end Go.Proofs.Ytkfahacnanlnfaa
