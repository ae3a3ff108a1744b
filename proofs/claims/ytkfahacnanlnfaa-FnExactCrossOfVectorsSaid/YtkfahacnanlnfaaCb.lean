/- The cross product, the reference's side. -/
import Derived.Test.YtkfahacnanlnfaaCa
namespace Go.Proofs.Ytkfahacnanlnfaa
open Go.RowKit Ieee

theorem boxes3 (w : World) (a b c a' b' c' : Nat) : ∃ w1, w1 = (((w.alloc (.cells #[.float .f32 a, .float .f32 b, .float .f32 c] 26)).alloc (.cells #[.float .f32 a', .float .f32 b', .float .f32 c'] 26)).alloc (.cells #[.float .f32 0, .float .f32 0, .float .f32 0] 26)) ∧
    Box3 w1 w.heap.size a b c ∧ Box3 w1 (w.heap.size + 1) a' b' c' ∧ Box3 w1 (w.heap.size + 1 + 1) 0 0 0 ∧ Below w.heap.size w w1 := by
  obtain ⟨X, Y, b0⟩ := boxes w a b c a' b' c'
  have h := box3_new ((w.alloc (.cells #[.float .f32 a, .float .f32 b, .float .f32 c] 26)).alloc (.cells #[.float .f32 a', .float .f32 b', .float .f32 c'] 26)) 0 0 0
  simp only [World.size_alloc] at h
  exact ⟨_, rfl, X.alloc _, Y.alloc _, h, b0.alloc b0.size _⟩

/-- What lies there while the cross product is reckoned. -/
def Lies (w : World) (T a b c a' b' c' : Nat) (w' : World) : Prop := Box3 w' w.heap.size a b c ∧ Box3 w' (w.heap.size + 1) a' b' c' ∧ Box3 w' T 0 0 0 ∧ Below w.heap.size w w'
theorem Lies.below {w w1 w2 : World} {T a b c a' b' c' : Nat} (h : Lies w T a b c a' b' c' w1) (b1 : Below w1.heap.size w1 w2) : Lies w T a b c a' b' c' w2 :=
  ⟨h.1.below b1 h.1.lt, h.2.1.below b1 h.2.1.lt, h.2.2.1.below b1 h.2.2.1.lt, h.2.2.2.trans (b1.mono h.2.2.2.size)⟩

theorem Lies.drew {w w1 : World} {T a b c a' b' c' : Nat} (h : Lies w T a b c a' b' c' w1) : Lies w T a b c a' b' c' w1.drew := ⟨h.1, h.2.1, h.2.2.1, h.2.2.2.drew⟩

set_option maxHeartbeats 4000000 in
theorem specCross1_yes (a b c a' b' c' : Nat) (w : World) (f0 : finV a b c = true) (f1 : finV a' b' c' = true) : Calls Try.prog 36 #[vec a b c, vec a' b' c'] w fun e w' =>
    ∃ r s t, e = .returned (.tuple #[vec (zv (finV r s t) r) (zv (finV r s t) s) (zv (finV r s t) t), .int .i64 (if finV r s t then 0 else 3)]) ∧ Below w.heap.size w w' ∧
    PartOf b c' c b' r ∧ PartOf c a' a c' s ∧ PartOf a b' b a' t := by
  obtain ⟨w1, hw1, X, Y, Z, b0⟩ := boxes3 w a b c a' b' c'
  have L0 := Lib.hid (show Lies w (w.heap.size + 1 + 1) a b c a' b' c' w1 from ⟨X, Y, Z, b0⟩)
  obtain ⟨p0, p1, p2⟩ := finV_and f0
  obtain ⟨q0, q1, q2⟩ := finV_and f1
  clear X Y Z b0
  unfold vec
  go_enter Try.func36, Try.ntmps36
  go_wp2_with fail
  rw [← hw1]
  clear hw1
  obtain ⟨T, hT⟩ : ∃ T, w.heap.size + 1 + 1 = T := ⟨_, rfl⟩
  rw [hT] at L0 ⊢
  have hT1 : w.heap.size < T := by omega
  have hT2 : w.heap.size + 1 < T := by omega
  have hT3 : w.heap.size + 1 ≠ T := by omega
  have hT4 : w.heap.size ≠ T := by omega
  have hT5 : T ≠ w.heap.size := by omega
  have hT6 : T ≠ w.heap.size + 1 := by omega
  clear hT
  refine (l09Is_any a b c _).mono ?_
  rintro e w2 ⟨rfl, b2⟩
  rw [f0]
  have L2 := Lib.hid (L0.out.below b2)
  clear L0 b2 w1
  obtain ⟨d0, d1, d2⟩ := L2.out.2.1.cells
  go_wp2_with fail
  refine (l09Is_any a' b' c' _).mono ?_
  rintro e w3 ⟨rfl, b3⟩
  rw [f1]
  have L3 := Lib.hid (L2.out.below b3)
  clear L2 b3 w2 d0 d1 d2 f0 f1
  obtain ⟨c0, c1, c2⟩ := L3.out.1.cells
  obtain ⟨d0, d1, d2⟩ := L3.out.2.1.cells
  go_wp2_with fail
  go_region_held3 (fun w' => w'.cell? ⟨w.heap.size, 0, none⟩ = some (.float .f32 a) ∧ w'.cell? ⟨w.heap.size, 1, none⟩ = some (.float .f32 b) ∧ w'.cell? ⟨w.heap.size, 2, none⟩ = some (.float .f32 c) ∧ w'.cell? ⟨w.heap.size + 1, 0, none⟩ = some (.float .f32 a') ∧ w'.cell? ⟨w.heap.size + 1, 1, none⟩ = some (.float .f32 b') ∧ w'.cell? ⟨w.heap.size + 1, 2, none⟩ = some (.float .f32 c')) (go_keep) (first
    | (go_at_call 72; refine (l09Part_any _ _ _ _ _ (by assumption) (by assumption) (by assumption) (by assumption)).mono ?_; rintro e w4 ⟨r, rfl, hr, b4⟩; have L4 := Lib.hid (Lies.below L3.out.drew b4); have Hhr := Lib.hid hr; clear b4 hr; obtain ⟨x0, x1, x2⟩ := L4.out.1.cells; obtain ⟨y0, y1, y2⟩ := L4.out.2.1.cells)
    | (go_at_call 72; refine (l09Part_any _ _ _ _ _ (by assumption) (by assumption) (by assumption) (by assumption)).mono ?_; rintro e w5 ⟨s, rfl, hs, b5⟩; have L5 := Lib.hid (Lies.below L4.out b5); have Hhs := Lib.hid hs; clear b5 hs; obtain ⟨x0, x1, x2⟩ := L5.out.1.cells; obtain ⟨y0, y1, y2⟩ := L5.out.2.1.cells)
    | (go_at_call 72; refine (l09Part_any _ _ _ _ _ (by assumption) (by assumption) (by assumption) (by assumption)).mono ?_; rintro e w6 ⟨t, rfl, ht, b6⟩; have L6 := Lib.hid (Lies.below L5.out b6); have Hht := Lib.hid ht; clear b6 ht; obtain ⟨x0, x1, x2⟩ := L6.out.1.cells; obtain ⟨y0, y1, y2⟩ := L6.out.2.1.cells)
    | (go_at_call 71; refine (l09Told_any _ _ _ _).mono ?_; rintro e w7 ⟨rfl, b7⟩; unfold vec; obtain ⟨k, hk⟩ : ∃ k : Int, (if finV r s t = true then (0 : Int) else 3) = k := ⟨_, rfl⟩; rw [hk]; have HK := Lib.hid hk; clear hk; have L7 := Lib.hid (Lies.below L6.out b7); clear b7; obtain ⟨x0, x1, x2⟩ := L7.out.1.cells; obtain ⟨y0, y1, y2⟩ := L7.out.2.1.cells; obtain ⟨z0, z1, z2⟩ := L7.out.2.2.1.cells; have g0 := Box3.frozen L7.out.2.2.1 0; have g1 := Box3.frozen L7.out.2.2.1 1; have g2 := Box3.frozen L7.out.2.2.1 2))
  all_goals
    clear hT2 hT3 hT4 hT5 hT6 c0 c1 c2 d0 d1 d2 p0 p1 p2 q0 q1 q2
    go_wp2
    refine bodyPost_ret (v := .tuple #[.agg #[.float .f32 (zv (finV r s t) r), .float .f32 (zv (finV r s t) s), .float .f32 (zv (finV r s t) t)], .int .i64 k]) (by simp [results, Try.results36, go_sem, z0, z1, z2]) rfl ?_
    refine ⟨r, s, t, by rw [HK.out], ?_, Hhr.out, Hhs.out, Hht.out⟩
    exact below_set3 L7.out.2.2.2 (Nat.le_of_lt hT1) _ _ _
end Go.Proofs.Ytkfahacnanlnfaa
