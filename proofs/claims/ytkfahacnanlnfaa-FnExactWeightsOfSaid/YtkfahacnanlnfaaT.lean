/- The inner product of two vectors, both. -/
import Derived.Test.YtkfahacnanlnfaaS
namespace Go.Proofs.Ytkfahacnanlnfaa
open Go.RowKit Ieee

/-! What the inner product is. -/
def in1 (a b a' b' : Nat) : Nat := op32 .add (op32 .mul a a') (op32 .mul b b')
def in2 (a b c a' b' c' : Nat) : Nat := op32 .add (in1 a b a' b') (op32 .mul c c')
def inOk (a b c a' b' c' : Nat) : Bool := fin32 (op32 .mul a a') && fin32 (op32 .mul b b') && fin32 (in1 a b a' b') && fin32 (op32 .mul c c') && fin32 (in2 a b c a' b' c')
def inCode (a b c a' b' c' : Nat) : Int := if finV a b c && finV a' b' c' then (if inOk a b c a' b' c' then 0 else 3) else 1
def inVal (a b c a' b' c' : Nat) : Nat := if finV a b c && finV a' b' c' then (if inOk a b c a' b' c' then cz (in2 a b c a' b' c') else 0) else 0

theorem inner_spec {a b c a' b' c' r : Nat} (h : ∃ w1 w2, r = opV .add w2 (opV .add w1 (op32 .mul a a') (op32 .mul b b')) (op32 .mul c c')) :
    (inOk a b c a' b' c' = true → r = in2 a b c a' b' c' ∧ fin32 r = true) ∧ (inOk a b c a' b' c' = false → fin32 r = false) := by
  obtain ⟨w1, w2, rfl⟩ := h
  unfold inOk in2 in1
  cases f0 : fin32 (op32 .mul a a') with
  | false => exact ⟨nofun, fun _ => opV_bad _ _ (.inl rfl) (.inl (opV_bad _ _ (.inl rfl) (.inl f0)))⟩
  | true =>
  cases f1 : fin32 (op32 .mul b b') with
  | false => exact ⟨nofun, fun _ => opV_bad _ _ (.inl rfl) (.inl (opV_bad _ _ (.inl rfl) (.inr f1)))⟩
  | true =>
  rw [opV_good .add w1 rfl f0 f1]
  cases f2 : fin32 (op32 .add (op32 .mul a a') (op32 .mul b b')) with
  | false => exact ⟨nofun, fun _ => opV_bad _ _ (.inl rfl) (.inl f2)⟩
  | true =>
  cases f3 : fin32 (op32 .mul c c') with
  | false => exact ⟨nofun, fun _ => opV_bad _ _ (.inl rfl) (.inr f3)⟩
  | true =>
  rw [opV_good .add w2 rfl f2 f3]
  cases f4 : fin32 (op32 .add (op32 .add (op32 .mul a a') (op32 .mul b b')) (op32 .mul c c')) with
  | false => exact ⟨nofun, fun _ => rfl⟩
  | true => exact ⟨fun _ => ⟨rfl, rfl⟩, nofun⟩

theorem boxes (w : World) (a b c a' b' c' : Nat) : Box3 ((w.alloc (.cells #[.float .f32 a, .float .f32 b, .float .f32 c] 26)).alloc (.cells #[.float .f32 a', .float .f32 b', .float .f32 c'] 26)) w.heap.size a b c ∧
    Box3 ((w.alloc (.cells #[.float .f32 a, .float .f32 b, .float .f32 c] 26)).alloc (.cells #[.float .f32 a', .float .f32 b', .float .f32 c'] 26)) (w.heap.size + 1) a' b' c' ∧
    Below w.heap.size w ((w.alloc (.cells #[.float .f32 a, .float .f32 b, .float .f32 c] 26)).alloc (.cells #[.float .f32 a', .float .f32 b', .float .f32 c'] 26)) := by
  have h := box3_new (w.alloc (.cells #[.float .f32 a, .float .f32 b, .float .f32 c] 26)) a' b' c'
  rw [show (w.alloc (.cells #[.float .f32 a, .float .f32 b, .float .f32 c] 26)).heap.size = w.heap.size + 1 by simp] at h
  refine ⟨?_, h, ((Below.refl _ _).alloc (Nat.le_refl _) _).alloc (by simp) _⟩
  exact (box3_new w a b c).alloc _

theorem specInner1_no (a b c a' b' c' : Nat) (w : World) (h : (finV a b c && finV a' b' c') = false) : Calls Try.prog 33 #[vec a b c, vec a' b' c'] w fun e w' =>
    e = .returned (.tuple #[.float .f32 0, .int .i64 1]) ∧ Below w.heap.size w w' := by
  obtain ⟨X, Y, b0⟩ := boxes w a b c a' b' c'
  cases f0 : finV a b c with
  | false =>
    unfold vec
    go_enter Try.func33, Try.ntmps33
    go_wp2_with fail
    refine (l09Is_any a b c _).mono ?_
    rintro e w1 ⟨rfl, b1⟩
    rw [f0]
    have B1 := Lib.hid (b0.trans (b1.mono b0.size))
    clear b1 b0 X Y
    go_wp2
    go_ret2
    exact ⟨rfl, B1.out⟩
  | true =>
    rw [f0] at h
    have f1 : finV a' b' c' = false := by simpa using h
    clear h
    unfold vec
    go_enter Try.func33, Try.ntmps33
    go_wp2_with fail
    refine (l09Is_any a b c _).mono ?_
    rintro e w1 ⟨rfl, b1⟩
    rw [f0]
    have B1 := Lib.hid (b0.trans (b1.mono b0.size))
    have X1 := Lib.hid (X.below b1 X.lt)
    have Y1 := Lib.hid (Y.below b1 Y.lt)
    clear b1 b0 X Y
    obtain ⟨d0, d1, d2⟩ := Y1.out.cells
    go_wp2_with fail
    refine (l09Is_any a' b' c' _).mono ?_
    rintro e w2 ⟨rfl, b2⟩
    rw [f1]
    have B2 := Lib.hid (B1.out.trans (b2.mono B1.out.size))
    clear b2
    go_wp2
    go_ret2
    exact ⟨rfl, B2.out⟩
theorem specInner1_yes (a b c a' b' c' : Nat) (w : World) (f0 : finV a b c = true) (f1 : finV a' b' c' = true) : Calls Try.prog 33 #[vec a b c, vec a' b' c'] w fun e w' =>
    ∃ r, e = .returned (.tuple #[.float .f32 (if fin32 r then r else 0), .int .i64 (if fin32 r then 0 else 3)]) ∧ Below w.heap.size w w' ∧
    ∃ w1 w2, r = opV .add w2 (opV .add w1 (op32 .mul a a') (op32 .mul b b')) (op32 .mul c c') := by
  obtain ⟨X, Y, b0⟩ := boxes w a b c a' b' c'
  have HF0 := Lib.hid f0
  have HF1 := Lib.hid f1
  unfold vec
  go_enter Try.func33, Try.ntmps33
  go_wp2_with fail
  refine (l09Is_any a b c _).mono ?_
  rintro e w1 ⟨rfl, b1⟩
  rw [f0]
  have B1 := Lib.hid (b0.trans (b1.mono b0.size))
  have X1 := Lib.hid (X.below b1 X.lt)
  have Y1 := Lib.hid (Y.below b1 Y.lt)
  clear b1 b0 X Y
  obtain ⟨d0, d1, d2⟩ := Y1.out.cells
  go_wp2_with fail
  refine (l09Is_any a' b' c' _).mono ?_
  rintro e w2 ⟨rfl, b2⟩
  rw [f1]
  clear f0 f1 d0 d1 d2
  have B2 := Lib.hid (B1.out.trans (b2.mono B1.out.size))
  have X2 := Lib.hid (X1.out.below b2 X1.out.lt)
  have Y2 := Lib.hid (Y1.out.below b2 Y1.out.lt)
  clear b2
  obtain ⟨c0, c1, c2⟩ := X2.out.cells
  obtain ⟨d0, d1, d2⟩ := Y2.out.cells
  go_wp2_with fail
  refine (l09Inner_any a b c a' b' c' _ HF0.out HF1.out).mono ?_
  rintro e w3 ⟨r, rfl, b3, hr⟩
  have B3 := Lib.hid (B2.out.trans (b3.mono B2.out.size))
  have HR := Lib.hid hr
  clear b3 hr c0 c1 c2 d0 d1 d2
  go_wp2_with fail
  refine (l01Number1_any r _).mono ?_
  rintro e w4 ⟨rfl, b4⟩
  have B4 := Lib.hid (B3.out.trans (b4.mono B3.out.size))
  clear b4
  obtain ⟨v1, hv1⟩ : ∃ v, (if fin32 r = true then r else 0) = v := ⟨_, rfl⟩
  obtain ⟨v2, hv2⟩ : ∃ v, (if fin32 r = true then (0 : Int) else 3) = v := ⟨_, rfl⟩
  rw [hv1, hv2]
  have V1 := Lib.hid hv1; clear hv1
  have V2 := Lib.hid hv2; clear hv2
  go_wp2
  go_ret2
  exact ⟨r, by rw [V1.out, V2.out]; rfl, B4.out, HR.out⟩

/-- The call hands back the float v with the code k. -/
def Tells (v : Nat) (k : Int) (w : World) (e : Ending) (w' : World) : Prop := e = .returned (.tuple #[.float .f32 v, .int .i64 k]) ∧ Below w.heap.size w w'
theorem cz_zero : cz 0 = 0 := by decide +kernel
theorem specInner_any (a b c a' b' c' : Nat) (w : World) : Calls Try.prog 9 #[vec a b c, vec a' b' c'] w (Tells (inVal a b c a' b' c') (inCode a b c a' b' c') w) := by
  obtain ⟨X, Y, b0⟩ := boxes w a b c a' b' c'
  cases f : (finV a b c && finV a' b' c') with
  | false =>
    have e1 : inVal a b c a' b' c' = 0 := by unfold inVal; rw [f]; rfl
    have e2 : inCode a b c a' b' c' = 1 := by unfold inCode; rw [f]; rfl
    rw [e1, e2]
    clear e1 e2
    unfold vec
    go_enter Try.func9, Try.ntmps9
    go_wp2_with fail
    refine (specInner1_no a b c a' b' c' _ f).mono ?_
    rintro e w1 ⟨rfl, b1⟩
    have B1 := Lib.hid (b0.trans (b1.mono b0.size))
    clear b1 b0 X Y
    go_wp2_with (go_at_call 34; refine (l00Float_any 0 _).mono ?_; rintro e w' ⟨rfl, rfl⟩; rw [cz_zero])
    go_ret2
    exact ⟨rfl, B1.out⟩
  | true =>
    have f0 : finV a b c = true := by revert f; cases finV a b c <;> simp
    have f1 : finV a' b' c' = true := by revert f; cases finV a' b' c' <;> simp
    obtain ⟨v, hv⟩ : ∃ v, inVal a b c a' b' c' = v := ⟨_, rfl⟩
    obtain ⟨k, hk⟩ : ∃ v, inCode a b c a' b' c' = v := ⟨_, rfl⟩
    rw [hv, hk]
    have HV := Lib.hid hv; clear hv
    have HK := Lib.hid hk; clear hk
    have HF := Lib.hid f; clear f
    unfold vec
    go_enter Try.func9, Try.ntmps9
    go_wp2_with fail
    refine (specInner1_yes a b c a' b' c' _ f0 f1).mono ?_
    rintro e w1 ⟨r, rfl, b1, hr⟩
    have B1 := Lib.hid (b0.trans (b1.mono b0.size))
    clear b1 b0 X Y
    obtain ⟨g1, g2⟩ := inner_spec hr
    clear hr
    have hgo : cz (if fin32 r = true then r else 0) = v ∧ (if fin32 r = true then (0 : Int) else 3) = k := by
      rw [← HV.out, ← HK.out]
      unfold inVal inCode
      rw [HF.out]
      cases ho : inOk a b c a' b' c' with
      | true =>
        obtain ⟨q1, q2⟩ := g1 ho
        rw [q2, if_pos rfl, if_pos rfl, q1]
        exact ⟨rfl, rfl⟩
      | false =>
        rw [g2 ho]
        exact ⟨cz_zero, rfl⟩
    obtain ⟨h1, h2⟩ := hgo
    rw [h2]
    obtain ⟨y, hy⟩ : ∃ y, (if fin32 r = true then r else 0) = y := ⟨_, rfl⟩
    rw [hy] at h1 ⊢
    clear g1 g2 hy h2
    have H1 := Lib.hid h1; clear h1
    go_wp2_with (go_at_call 34; refine (l00Float_any y _).mono ?_; rintro e w' ⟨rfl, rfl⟩; rw [H1.out])
    go_ret2
    exact ⟨rfl, B1.out⟩
end Go.Proofs.Ytkfahacnanlnfaa
