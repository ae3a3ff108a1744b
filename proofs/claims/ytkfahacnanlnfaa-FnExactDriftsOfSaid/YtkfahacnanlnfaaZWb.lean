/- The inner product, the implementation's side, joined. -/
/- Rows of floats: comparing, marking, holding; the reference's copy without signs of zeros. -/
import Derived.Test.YtkfahacnanlnfaaZWa
import Derived.Test.YtkfahacnanlnfaaZU
namespace Go.Proofs.Ytkfahacnanlnfaa
open Go.RowKit Ieee

theorem stpC_lost (x : Nat) : stpC 3 x = 3 := by unfold stpC failed; split <;> rfl
theorem stpC_fin {x : Nat} (h : fin32 x = true) (c : Int) : stpC c x = c := by unfold stpC; rw [h]; rfl
theorem stpC_not {x : Nat} (h : fin32 x = false) : stpC 0 x = 3 := by unfold stpC; rw [h]; rfl
theorem stpV_fin {x : Nat} (h : fin32 x = true) : stpV 0 x = cz x := by unfold stpV; rw [h]; rfl
theorem accC_lost (v x y : Nat) : accC 3 v x y = 3 := by unfold accC; rw [stpC_lost, stpC_lost]
theorem accC_not {v x y : Nat} (h : fin32 (op32 .mul x y) = false) : accC 0 v x y = 3 := by unfold accC; rw [stpC_not h, stpC_lost]
theorem acc_fin {s x y : Nat} (hs : fin32 s = true) (h : fin32 (op32 .mul x y) = true) :
    (fin32 (op32 .add s (op32 .mul x y)) = true → accC 0 (cz s) x y = 0 ∧ accV 0 (cz s) x y = cz (op32 .add s (op32 .mul x y))) ∧ (fin32 (op32 .add s (op32 .mul x y)) = false → accC 0 (cz s) x y = 3) := by
  obtain ⟨_, _, e1, e2, _⟩ := op_fin (o := .add) rfl hs h
  unfold accC accV
  rw [stpC_fin h, stpV_fin h]
  refine ⟨fun hf => ?_, fun hf => ?_⟩
  · rw [e2] at hf
    exact ⟨stpC_fin hf 0, by rw [stpV_fin hf, e1]⟩
  · rw [e2] at hf
    exact stpC_not hf
theorem inner_impl (a b c a' b' c' : Nat) : (inOk a b c a' b' c' = true → dotC a b c a' b' c' = 0 ∧ dotV a b c a' b' c' = cz (in2 a b c a' b' c')) ∧ (inOk a b c a' b' c' = false → dotC a b c a' b' c' = 3) := by
  unfold inOk dotC dotV in2 in1
  cases f0 : fin32 (op32 .mul a a') with
  | false => exact ⟨nofun, fun _ => by rw [stpC_not f0, accC_lost, accC_lost]⟩
  | true =>
  rw [stpC_fin f0, stpV_fin f0]
  cases f1 : fin32 (op32 .mul b b') with
  | false => exact ⟨nofun, fun _ => by rw [accC_not f1, accC_lost]⟩
  | true =>
  obtain ⟨g1, g2⟩ := acc_fin f0 f1
  cases f2 : fin32 (op32 .add (op32 .mul a a') (op32 .mul b b')) with
  | false => exact ⟨nofun, fun _ => by rw [g2 f2, accC_lost]⟩
  | true =>
  rw [(g1 f2).1, (g1 f2).2]
  cases f3 : fin32 (op32 .mul c c') with
  | false => exact ⟨nofun, fun _ => by rw [accC_not f3]⟩
  | true =>
  obtain ⟨g3, g4⟩ := acc_fin f2 f3
  cases f4 : fin32 (op32 .add (op32 .add (op32 .mul a a') (op32 .mul b b')) (op32 .mul c c')) with
  | false => exact ⟨nofun, fun _ => g4 f4⟩
  | true => exact ⟨fun _ => g3 f4, nofun⟩

theorem told_any (B : Nat) (c : Int) (v : Nat) (w : World) (h : CalcAt w B c) : Calls Try.prog 69 #[.pointer (some ⟨B, 0, none⟩), .float .f32 v] w (Tells (if c = 0 then v else 0) c w) := by
  have hc := h.cell
  by_cases h0 : c = 0
  · subst h0
    rw [if_pos rfl]
    go_enter Try.func69, Try.ntmps69
    go_wp2
    go_ret2
    exact ⟨rfl, Below.refl _ _⟩
  · rw [if_neg h0]
    have hb : (c != 0) = true := by simpa using h0
    go_enter Try.func69, Try.ntmps69
    go_wp2
    go_region
    all_goals
      go_wp2
      go_ret2
      exact ⟨rfl, (Below.refl _ _).drew⟩

def finVs (a b c a' b' c' : Nat) : Bool := finV a b c && finV a' b' c'
theorem dotVectors_no (a b c a' b' c' : Nat) (w : World) (h : (finV a b c && finV a' b' c') = false) : Calls Try.prog 35 #[vec a b c, vec a' b' c'] w (Tells 0 1 w) := by
  obtain ⟨X, Y, b0⟩ := boxes w a b c a' b' c'
  cases f0 : finV a b c with
  | false =>
    unfold vec
    go_enter Try.func35, Try.ntmps35
    go_wp2_with fail
    refine (isVector_any a b c _).mono ?_
    rintro e w1 ⟨rfl, b1⟩
    rw [f0]
    have B1 := Lib.hid (b0.trans (b1.mono b0.size))
    clear b1 b0 X Y
    go_wp2
    go_ret2
    exact ⟨rfl, B1.out⟩
  | true =>
    rw [f0] at h
    have f1 : finV a' b' c' = false := by simpa using h
    clear h
    unfold vec
    go_enter Try.func35, Try.ntmps35
    go_wp2_with fail
    refine (isVector_any a b c _).mono ?_
    rintro e w1 ⟨rfl, b1⟩
    rw [f0]
    have B1 := Lib.hid (b0.trans (b1.mono b0.size))
    have X1 := Lib.hid (X.below b1 X.lt)
    have Y1 := Lib.hid (Y.below b1 Y.lt)
    clear b1 b0 X Y
    obtain ⟨d0, d1, d2⟩ := Y1.out.cells
    go_wp2_with fail
    refine (isVector_any a' b' c' _).mono ?_
    rintro e w2 ⟨rfl, b2⟩
    rw [f1]
    have B2 := Lib.hid (B1.out.trans (b2.mono B1.out.size))
    clear b2
    go_wp2
    go_ret2
    exact ⟨rfl, B2.out⟩
theorem calc_new (w : World) : CalcAt (w.alloc (.cells #[.int .i64 0] 67)) w.heap.size 0 := heap_alloc_new w _
theorem dotVectors_yes (a b c a' b' c' : Nat) (w : World) (f0 : finV a b c = true) (f1 : finV a' b' c' = true) : Calls Try.prog 35 #[vec a b c, vec a' b' c'] w
    (Tells (if dotC a b c a' b' c' = 0 then dotV a b c a' b' c' else 0) (dotC a b c a' b' c') w) := by
  obtain ⟨X, Y, b0⟩ := boxes w a b c a' b' c'
  have HF0 := Lib.hid f0
  have HF1 := Lib.hid f1
  have hdot := fun B w => dot_any B a b c a' b' c' w
  generalize dotC a b c a' b' c' = k at *
  generalize dotV a b c a' b' c' = v at *
  have HD := Lib.hid hdot; clear hdot
  obtain ⟨y, hy⟩ : ∃ y, (if k = 0 then v else 0) = y := ⟨_, rfl⟩
  rw [hy]
  have HY := Lib.hid hy; clear hy
  unfold vec
  go_enter Try.func35, Try.ntmps35
  go_wp2_with fail
  refine (isVector_any a b c _).mono ?_
  rintro e w1 ⟨rfl, b1⟩
  rw [f0]
  have B1 := Lib.hid (b0.trans (b1.mono b0.size))
  have X1 := Lib.hid (X.below b1 X.lt)
  have Y1 := Lib.hid (Y.below b1 Y.lt)
  clear b1 b0 X Y
  obtain ⟨d0, d1, d2⟩ := Y1.out.cells
  go_wp2_with fail
  refine (isVector_any a' b' c' _).mono ?_
  rintro e w2 ⟨rfl, b2⟩
  rw [f1]
  clear f0 f1 d0 d1 d2
  have B2 := Lib.hid (B1.out.trans (b2.mono B1.out.size))
  have X2 := Lib.hid (X1.out.below b2 X1.out.lt)
  have Y2 := Lib.hid (Y1.out.below b2 Y1.out.lt)
  clear b2
  obtain ⟨c0, c1, c2⟩ := X2.out.cells
  obtain ⟨d0, d1, d2⟩ := Y2.out.cells
  have l0 := X2.out.lt
  have l1 := Y2.out.lt
  go_wp2_with fail
  refine (HD.out w2.heap.size _ (calc_new w2) HF0.out HF1.out).mono ?_
  rintro e w3 ⟨rfl, hc3, g3⟩
  have B3 := Lib.hid ((B2.out.alloc B2.out.size _).grown g3 (by have := B2.out.size; simp; omega) (fun g e => by cases e; exact B2.out.size) : Below w.heap.size w w3)
  have C3 := Lib.hid hc3
  clear hc3 g3 c0 c1 c2 d0 d1 d2
  go_wp2_with fail
  refine (told_any w2.heap.size k v _ C3.out).mono ?_
  rintro e w4 ⟨rfl, b4⟩
  rw [HY.out]
  have B4 := Lib.hid (B3.out.trans (b4.mono B3.out.size))
  clear b4
  go_wp2
  go_ret2
  exact ⟨rfl, B4.out⟩
theorem dotVectors_any (a b c a' b' c' : Nat) (w : World) : Calls Try.prog 35 #[vec a b c, vec a' b' c'] w (Tells (inVal a b c a' b' c') (inCode a b c a' b' c') w) := by
  unfold inVal inCode
  cases f : (finV a b c && finV a' b' c') with
  | false => exact dotVectors_no a b c a' b' c' w f
  | true =>
    have f0 : finV a b c = true := by revert f; cases finV a b c <;> simp
    have f1 : finV a' b' c' = true := by revert f; cases finV a' b' c' <;> simp
    have h := dotVectors_yes a b c a' b' c' w f0 f1
    obtain ⟨g1, g2⟩ := inner_impl a b c a' b' c'
    cases ho : inOk a b c a' b' c' with
    | true => rw [(g1 ho).1, (g1 ho).2] at h; exact h
    | false => rw [g2 ho] at h; exact h
theorem implInner_any (a b c a' b' c' : Nat) (w : World) : Calls Try.prog 11 #[vec a b c, vec a' b' c'] w (Tells (inVal a b c a' b' c') (inCode a b c a' b' c') w) := by
  obtain ⟨X, Y, b0⟩ := boxes w a b c a' b' c'
  have hdot := fun w => dotVectors_any a b c a' b' c' w
  generalize inVal a b c a' b' c' = v at *
  generalize inCode a b c a' b' c' = k at *
  have HD := Lib.hid hdot; clear hdot
  unfold vec
  go_enter Try.func11, Try.ntmps11
  go_wp2_with fail
  refine (HD.out _).mono ?_
  rintro e w1 ⟨rfl, b1⟩
  have B1 := Lib.hid (b0.trans (b1.mono b0.size))
  clear b1 b0 X Y
  go_wp2
  go_ret2
  exact ⟨rfl, B1.out⟩

/-! The copy of an array. -/
section
variable (P : Program) (w : World) (a : Addr) (m : Mode)
@[go_sem] theorem run_store_float (k : FloatKind) (n : Nat) : (store a (.float k n) m).run P w = stored P w a (.float k n) m := run_store P w a _ m rfl
end
def cpy (a b c : Nat) : Nat → Nat × Nat × Nat
  | 0 => (0, 0, 0)
  | 1 => (a, 0, 0)
  | 2 => (a, b, 0)
  | _ => (a, b, c)
theorem toVector_any (a b c : Nat) (w : World) : Calls Try.prog 10 #[vec a b c] w fun e w' => e = .returned (vec a b c) ∧ Below w.heap.size w w' := by
  unfold vec
  go_enter Try.func10, Try.ntmps10
  go_wp2
  have L := Lib.hid (show Box3 (((w.alloc (.cells #[.float .f32 a, .float .f32 b, .float .f32 c] 23)).alloc (.cells #[.float .f32 0, .float .f32 0, .float .f32 0] 26)).alloc (.cells #[.float .f32 0, .float .f32 0, .float .f32 0] 26)) w.heap.size a b c ∧ Box3 (((w.alloc (.cells #[.float .f32 a, .float .f32 b, .float .f32 c] 23)).alloc (.cells #[.float .f32 0, .float .f32 0, .float .f32 0] 26)).alloc (.cells #[.float .f32 0, .float .f32 0, .float .f32 0] 26)) (w.heap.size + 1) 0 0 0 ∧ Box3 (((w.alloc (.cells #[.float .f32 a, .float .f32 b, .float .f32 c] 23)).alloc (.cells #[.float .f32 0, .float .f32 0, .float .f32 0] 26)).alloc (.cells #[.float .f32 0, .float .f32 0, .float .f32 0] 26)) (w.heap.size + 1 + 1) 0 0 0 ∧ Below w.heap.size w (((w.alloc (.cells #[.float .f32 a, .float .f32 b, .float .f32 c] 23)).alloc (.cells #[.float .f32 0, .float .f32 0, .float .f32 0] 26)).alloc (.cells #[.float .f32 0, .float .f32 0, .float .f32 0] 26)) by
    have h0 := box3_newT w a b c 23
    have h1 := box3_new (w.alloc (.cells #[.float .f32 a, .float .f32 b, .float .f32 c] 23)) 0 0 0
    have h2 := box3_new ((w.alloc (.cells #[.float .f32 a, .float .f32 b, .float .f32 c] 23)).alloc (.cells #[.float .f32 0, .float .f32 0, .float .f32 0] 26)) 0 0 0
    simp only [World.size_alloc] at h1 h2
    exact ⟨(h0.alloc _).alloc _, h1.alloc _, h2, (((Below.refl _ _).alloc (Nat.le_refl _) _).alloc (by simp) _).alloc (by simp; omega) _⟩)
  obtain ⟨T, hT⟩ : ∃ T, w.heap.size + 1 + 1 = T := ⟨_, rfl⟩
  rw [hT] at L ⊢
  have hT1 : w.heap.size < T := by omega
  have hT2 : w.heap.size + 1 < T := by omega
  have hT3 : w.heap.size + 1 ≠ T := by omega
  have hT4 : w.heap.size ≠ T := by omega
  clear hT
  go_loopw [4] (fun i wr => ∃ k : Nat, k ≤ 3 ∧ i = .int .i64 k ∧ Box3 wr w.heap.size a b c ∧ Box3 wr (w.heap.size + 1) 0 0 0 ∧ Box3 wr (T) (cpy a b c k).1 (cpy a b c k).2.1 (cpy a b c k).2.2 ∧ Below w.heap.size w wr) (fun i _ => 3 - (intOf i).toNat)
  case atStart => exact ⟨0, by omega, rfl, L.out.1, L.out.2.1, L.out.2.2.1, L.out.2.2.2⟩
  case round =>
    obtain ⟨k, hk, rfl, hx, hy, hz, hb⟩ := hrel
    clear L
    obtain ⟨c0, c1, c2⟩ := hx.cells
    obtain ⟨d0, d1, d2⟩ := hz.cells
    have f0 := hz.frozen 0
    have f1 := hz.frozen 1
    have f2 := hz.frozen 2
    have l0 := hx.lt
    have l2 := hz.lt
    have X := Lib.hid hx; clear hx
    have Z := Lib.hid hz; clear hz
    have BB := Lib.hid hb; clear hb
    rcases (by omega : k = 0 ∨ k = 1 ∨ k = 2 ∨ k = 3) with rfl | rfl | rfl | rfl
    · have Y := Lib.hid hy; clear hy
      change wr.cell? _ = some (.float .f32 0) at d0
      change wr.cell? _ = some (.float .f32 0) at d1
      change wr.cell? _ = some (.float .f32 0) at d2
      go_wp2
      refine ⟨⟨1, by omega, by rfl, ?_, ?_, (Z.out.set a).1, BB.out.setCell (by simp; omega) _⟩, by decide⟩
      · exact X.out.other (by simp; omega) _
      · exact Y.out.other hT3 _
    · have Y := Lib.hid hy; clear hy
      change wr.cell? _ = some (.float .f32 a) at d0
      change wr.cell? _ = some (.float .f32 0) at d1
      change wr.cell? _ = some (.float .f32 0) at d2
      go_wp2
      refine ⟨⟨2, by omega, by rfl, ?_, ?_, (Z.out.set b).2.1, BB.out.setCell (by simp; omega) _⟩, by decide⟩
      · exact X.out.other (by simp; omega) _
      · exact Y.out.other hT3 _
    · have Y := Lib.hid hy; clear hy
      change wr.cell? _ = some (.float .f32 a) at d0
      change wr.cell? _ = some (.float .f32 b) at d1
      change wr.cell? _ = some (.float .f32 0) at d2
      go_wp2
      refine ⟨⟨3, by omega, by rfl, ?_, ?_, (Z.out.set c).2.2, BB.out.setCell (by simp; omega) _⟩, by decide⟩
      · exact X.out.other (by simp; omega) _
      · exact Y.out.other hT3 _
    · obtain ⟨e0, e1, e2⟩ := hy.cells
      have g0 := hy.frozen 0
      have g1 := hy.frozen 1
      have g2 := hy.frozen 2
      have Y := Lib.hid hy; clear hy
      change wr.cell? _ = some (.float .f32 a) at d0
      change wr.cell? _ = some (.float .f32 b) at d1
      change wr.cell? _ = some (.float .f32 c) at d2
      have l1 := Y.out.lt
      go_wp2
      obtain ⟨k0, k1, k2⟩ := ((Y.out.set a).1.set b).2.1 |>.set c |>.2.2 |>.cells
      refine bodyPost_ret (v := .agg #[.float .f32 a, .float .f32 b, .float .f32 c]) (by simp [results, Try.results10, go_sem, e0, e1, e2]) rfl ?_
      exact ⟨rfl, ((BB.out.setCell (by simp) _).setCell (by simp) _).setCell (by simp) _⟩
end Go.Proofs.Ytkfahacnanlnfaa
namespace Go.Proofs.Ytkfahacnanlnfaa
open Go.RowKit Ieee

theorem FRd.drewN {w : World} {A : Option Addr} {xs : List Nat} (h : FRd w A xs) (n : Nat) : FRd (w.drewN n) A xs := h
theorem belowDrewN {w w' : World} {B : Nat} (h : Below B w w') (n : Nat) : Below B w (w'.drewN n) := h.trans ⟨rfl, rfl, rfl, Nat.le_refl _, fun _ _ => rfl⟩

theorem eqFloat32S_any (A A' : Option Addr) (c c' n : Nat) (xs : List Nat) (w : World) (hl : xs.length = n) (hn : n ≤ 1048576) (hr : FRd w A xs) (hr' : FRd w A' xs) (hf : ∀ x ∈ xs, fin32 x = true) :
    Calls Try.prog 21 #[.slice A n c, .slice A' n c'] w fun e w' => e = .returned (.bool true) ∧ Below w.heap.size w w' := by
  have HR := Lib.hid hr; clear hr
  have HR' := Lib.hid hr'; clear hr'
  have HF := Lib.hid hf; clear hf
  go_enter Try.func21, Try.ntmps21
  go_wp2
  go_loopw [5] (fun i wr => ∃ k : Nat, k ≤ n ∧ i = .int .i64 k ∧ Below w.heap.size w wr) (fun i _ => n - (intOf i).toNat)
  case atStart => exact ⟨0, Nat.zero_le _, rfl, Below.refl _ _⟩
  case round =>
    obtain ⟨k, hk, rfl, hbw⟩ := hrel
    by_cases hlt : k < n
    · obtain ⟨x, hx⟩ : ∃ x, xs[k]? = some x := ⟨_, List.getElem?_eq_getElem (by omega)⟩
      obtain ⟨b, off, rfl, hbl, h0⟩ := HR.out.below hbw k x hx
      obtain ⟨b', off', rfl, hbl', h0'⟩ := HR'.out.below hbw k x hx
      have hfx := HF.out x (List.mem_of_getElem? hx)
      have hc := wide_conv hfx
      have hg := Lib.hid (fin_wide hfx)
      generalize wide x = v at *
      have BW := Lib.hid hbw; clear hbw
      clear hfx hx
      go_wp2
      go_quiet ((go_at_call 12; exact Calls.quiet_of_same ((sameFloat_any v _ hg.out).mono fun _ _ h => ⟨h.1, h.2.symm⟩)))
      go_wp2
      exact ⟨⟨k + 1, by omega, by go_num, belowDrewN BW.out _⟩, by simp [intOf]; omega⟩
    · obtain rfl : k = n := by omega
      go_wp2
      go_ret
      exact ⟨rfl, hbw⟩

theorem grownBy_setCell {w w' : World} {g : Nat} (h : w.grownBy w' (some g)) (i : Nat) (u : Value) : w.grownBy (w'.setCell ⟨g, i, none⟩ u) (some g) := h.trans (grownBy_set w' g i u)
/-- Block G is the two floats x, y. -/
def FRow2 (w : World) (G x y : Nat) : Prop := ∃ t, w.heap[G]? = some (.cells #[.float .f32 x, .float .f32 y] t (0, 0))
section
variable {w w' : World} {G x y : Nat}
theorem FRow2.lt (h : FRow2 w G x y) : G < w.heap.size := by
  obtain ⟨t, h⟩ := h; exact (Array.getElem?_eq_some_iff.1 h).1
theorem FRow2.cells (h : FRow2 w G x y) : w.cell? ⟨G, 0, none⟩ = some (.float .f32 x) ∧ w.cell? ⟨G, 1, none⟩ = some (.float .f32 y) := by
  obtain ⟨t, h⟩ := h; simp [World.cell?, h]
theorem FRow2.frozen (h : FRow2 w G x y) (i : Nat) : w.frozen? ⟨G, i, none⟩ = false := by
  obtain ⟨t, h⟩ := h; simp [World.frozen?, h]
theorem FRow2.keep (h : FRow2 w G x y) (hb : w'.heap[G]? = w.heap[G]?) : FRow2 w' G x y := by
  obtain ⟨t, h⟩ := h; exact ⟨t, hb.trans h⟩
theorem FRow2.below {B : Nat} (h : FRow2 w G x y) (hb : Below B w w') (hG : G < B) : FRow2 w' G x y := h.keep (hb.block G hG)
theorem FRow2.set0 (h : FRow2 w G x y) (z : Nat) : FRow2 (w.setCell ⟨G, 0, none⟩ (.float .f32 z)) G z y := by
  obtain ⟨t, h⟩ := h; exact ⟨t, by simp [World.setCell, Array.getElem?_modify, h]⟩
theorem FRow2.set1 (h : FRow2 w G x y) (z : Nat) : FRow2 (w.setCell ⟨G, 1, none⟩ (.float .f32 z)) G x z := by
  obtain ⟨t, h⟩ := h; exact ⟨t, by simp [World.setCell, Array.getElem?_modify, h]⟩
theorem FRow2.rd (h : FRow2 w G x y) : FRd w (some ⟨G, 0, none⟩) [x, y] := by
  obtain ⟨h0, h1⟩ := h.cells
  intro k z hk
  refine ⟨G, 0, rfl, h.lt, ?_⟩
  match k, hk with
  | 0, hk => cases hk; exact h0
  | 1, hk => cases hk; exact h1
end

theorem int1 : floatOfInt .f32 1 = 1065353216 := by decide +kernel
theorem int2 : floatOfInt .f32 2 = 1073741824 := by decide +kernel
theorem markF_any (G cap x y : Nat) (w : World) (hr : FRow2 w G x y) :
    Calls Try.prog 22 #[.slice (some ⟨G, 0, none⟩) 2 cap, .int .i64 1] w fun e w' => e = .returned (.int .i64 3) ∧ FRow2 w' G 1065353216 1073741824 ∧ w.grownBy w' (some G) := by
  have HR := Lib.hid hr; clear hr
  have i1 := int1
  have i2 := int2
  go_enter Try.func22, Try.ntmps22
  go_wp2
  go_loopw [1, 5] (fun t i wr => ∃ k : Nat, k ≤ 2 ∧ i = .int .i64 k ∧ t = .int .i64 (1 + k) ∧ FRow2 wr G (if 0 < k then 1065353216 else x) (if 1 < k then 1073741824 else y) ∧ w.grownBy wr (some G)) (fun _ i _ => 2 - (intOf i).toNat)
  case atStart => exact ⟨0, Nat.zero_le _, rfl, by rfl, HR.out, World.grownBy.refl _ _⟩
  case round =>
    obtain ⟨k, hk, rfl, rfl, hrow, hg⟩ := hrel
    obtain ⟨c0, c1⟩ := hrow.cells
    have f0 := hrow.frozen 0
    have f1 := hrow.frozen 1
    have lt := hrow.lt
    rcases (by omega : k = 0 ∨ k = 1 ∨ k = 2) with rfl | rfl | rfl
    · have H := Lib.hid hrow; clear hrow
      go_wp2
      exact ⟨⟨1, by omega, by rfl, by rfl, H.out.set0 _, grownBy_setCell hg _ _⟩, by decide⟩
    · have H := Lib.hid hrow; clear hrow
      go_wp2
      exact ⟨⟨2, by omega, by rfl, by rfl, H.out.set1 _, grownBy_setCell hg _ _⟩, by decide⟩
    · have H := Lib.hid hrow; clear hrow
      go_wp2
      go_ret
      exact ⟨rfl, H.out, hg⟩
theorem heldF_any (A : Option Addr) (cap : Nat) (w : World) (hr : FRd w A [1065353216, 1073741824]) :
    Calls Try.prog 23 #[.slice A 2 cap, .int .i64 1] w fun e w' => e = .returned (.int .i64 3) ∧ w = w' := by
  obtain ⟨b, off, rfl, hbl, c0⟩ := hr 0 _ rfl
  obtain ⟨b', off', hA, hbl', c1⟩ := hr 1 _ rfl
  cases hA
  clear hr
  rw [Nat.add_zero] at c0
  have i1 := int1
  have i2 := int2
  have o1 : (FloatKind.f32.format.order 1065353216 1065353216) = some .eq := by decide +kernel
  have o2 : (FloatKind.f32.format.order 1073741824 1073741824) = some .eq := by decide +kernel
  go_enter Try.func23, Try.ntmps23
  go_wp2
  go_loop [1, 5] (fun t i => ∃ k : Nat, k ≤ 2 ∧ i = .int .i64 k ∧ t = .int .i64 (1 + k)) (fun _ i => 2 - (intOf i).toNat)
  case atStart => exact ⟨0, Nat.zero_le _, rfl, by rfl⟩
  case round =>
    obtain ⟨k, hk, rfl, rfl⟩ := hrel
    rcases (by omega : k = 0 ∨ k = 1 ∨ k = 2) with rfl | rfl | rfl
    · go_wp2
      exact ⟨⟨1, by omega, by rfl, by rfl⟩, by decide⟩
    · go_wp2
      exact ⟨⟨2, by omega, by rfl, by rfl⟩, by decide⟩
    · go_wp2
      go_ret
      exact ⟨rfl, rfl⟩
theorem markF_none (A : Option Addr) (cap : Nat) (w : World) :
    Calls Try.prog 22 #[.slice A 0 cap, .int .i64 1] w fun e w' => e = .returned (.int .i64 1) ∧ w = w' := by
  go_enter Try.func22, Try.ntmps22
  go_wp2
  refine wp_loop_once ?_
  go_wp2
  go_ret
  exact ⟨rfl, rfl⟩
theorem heldF_none (A : Option Addr) (cap : Nat) (w : World) :
    Calls Try.prog 23 #[.slice A 0 cap, .int .i64 1] w fun e w' => e = .returned (.int .i64 1) ∧ w = w' := by
  go_enter Try.func23, Try.ntmps23
  go_wp2
  refine wp_loop_once ?_
  go_wp2
  go_ret
  exact ⟨rfl, rfl⟩
end Go.Proofs.Ytkfahacnanlnfaa
