/- Bell's pairs: the reference. -/
/- Bell's pairs: the reference's outer function. -/
import Derived.Test.YtkfahacnanlnfaaZEd
import Derived.Test.YtkfahacnanlnfaaZT
import Derived.Laws.ComplexArith
import Derived.Laws.Cover3
import Derived.Deep.RegionHeld3
namespace Go.Proofs.Ytkfahacnanlnfaa
open Go.RowKit Ieee

section
variable (P : Program) (w : World) (a : Addr) (m : Mode)
@[go_sem] theorem run_store_cplx (k : FloatKind) (x y : Nat) : (store a (.complex k x y) m).run P w = stored P w a (.complex k x y) m := run_store P w a _ m rfl
end
theorem rtv_half : rtv 1056964608 = 1060439283 := by decide +kernel
theorem half_read : single.read 1056964608 = .number false 8388608 (-24) := by decide +kernel
theorem half_root (w : World) : Calls Try.prog 79 #[.float .f32 1056964608] w fun e' w' => e' = .returned (.float .f32 1060439283) ∧ w = w' := by
  have h := l01Root_pos 1056964608 8388608 (-24) w half_read (by decide)
  rw [rtv_half] at h
  exact h
theorem neg_half (w : World) : (Op.unary .neg (.complex .f32 1060439283 0)).run Try.prog w = .ok (.complex .f32 3207922931 2147483648) w := by kernel_rfl
/-- Block B holds four values. -/
def Row4 (w : World) (B : Nat) (a b c d : Value) : Prop := ∃ t, w.heap[B]? = some (.cells #[a, b, c, d] t (0, 0))
section
variable {w w' : World} {B : Nat} {a b c d : Value}
theorem Row4.lt (h : Row4 w B a b c d) : B < w.heap.size := by
  obtain ⟨t, h⟩ := h
  exact (Array.getElem?_eq_some_iff.1 h).1
theorem Row4.cells (h : Row4 w B a b c d) : w.cell? ⟨B, 0, none⟩ = some a ∧ w.cell? ⟨B, 1, none⟩ = some b ∧ w.cell? ⟨B, 2, none⟩ = some c ∧ w.cell? ⟨B, 3, none⟩ = some d := by
  obtain ⟨t, h⟩ := h
  simp [World.cell?, h]
theorem Row4.frozen (h : Row4 w B a b c d) (i : Nat) : w.frozen? ⟨B, i, none⟩ = false := by
  obtain ⟨t, h⟩ := h
  simp [World.frozen?, h]
theorem Row4.keep (h : Row4 w B a b c d) (hb : w'.heap[B]? = w.heap[B]?) : Row4 w' B a b c d := by
  obtain ⟨t, h⟩ := h
  exact ⟨t, hb.trans h⟩
theorem Row4.below {K : Nat} (h : Row4 w B a b c d) (hb : Below K w w') (hK : B < K) : Row4 w' B a b c d := h.keep (hb.block B hK)
theorem Row4.alloc (h : Row4 w B a b c d) (o : Obj) : Row4 (w.alloc o) B a b c d := h.keep (Below.heap_alloc _ _ _ h.lt)
theorem Row4.other (h : Row4 w B a b c d) {p : Addr} (hp : B ≠ p.block) (v : Value) : Row4 (w.setCell p v) B a b c d := h.keep (Below.heap_setCell _ _ _ _ hp)
theorem row4_new (w : World) (a b c d : Value) (t : TypeId) : Row4 (w.alloc (.cells #[a, b, c, d] t)) w.heap.size a b c d := ⟨t, heap_alloc_new w _⟩
theorem Row4.put (h : Row4 w B a b c d) (a' b' c' d' : Value) : Row4 ((((w.setCell ⟨B, 0, none⟩ a').setCell ⟨B, 1, none⟩ b').setCell ⟨B, 2, none⟩ c').setCell ⟨B, 3, none⟩ d') B a' b' c' d' := by
  obtain ⟨t, h⟩ := h
  refine ⟨t, ?_⟩
  simp [World.setCell, Array.getElem?_modify, h]
theorem below_set4 {K : Nat} (h : Below K w w') (hB : K ≤ B) (u0 u1 u2 u3 : Value) : Below K w ((((w'.setCell ⟨B, 0, none⟩ u0).setCell ⟨B, 1, none⟩ u1).setCell ⟨B, 2, none⟩ u2).setCell ⟨B, 3, none⟩ u3) :=
  (((h.setCell (p := ⟨B, 0, none⟩) hB _).setCell (p := ⟨B, 1, none⟩) hB _).setCell (p := ⟨B, 2, none⟩) hB _).setCell (p := ⟨B, 3, none⟩) hB _
end
/-- Four complex numbers. -/
def quad (a b c d e f g h : Nat) : Value := .agg #[.complex .f32 a b, .complex .f32 c d, .complex .f32 e f, .complex .f32 g h]
/-- Bell's pair k, as the reference reckons it. -/
def bellR (k : Int) : Value := if k = 0 then quad 1060439283 0 0 0 0 0 1060439283 0 else if k = 1 then quad 1060439283 0 0 0 0 0 3207922931 2147483648 else if k = 2 then quad 0 0 1060439283 0 1060439283 0 0 0 else quad 0 0 1060439283 0 3207922931 2147483648 0 0

theorem l07Bell_any (k : Int) (w : World) (h0 : 0 ≤ k) (h3 : k ≤ 3) : Calls Try.prog 75 #[.int .i64 k] w fun e w' => e = .returned (bellR k) ∧ Below w.heap.size w w' := by
  rcases (by omega : k = 0 ∨ k = 1 ∨ k = 2 ∨ k = 3) with rfl | rfl | rfl | rfl
  · show Calls _ _ _ _ fun e w' => e = .returned (quad 1060439283 0 0 0 0 0 1060439283 0) ∧ _
    unfold quad
    go_enter Try.func75, Try.ntmps75
    go_wp2_with (go_at_call 79; refine (half_root _).mono ?_; rintro e w' ⟨rfl, rfl⟩)
    refine bodyPost_ret (v := .agg #[.complex .f32 1060439283 0, .complex .f32 0 0, .complex .f32 0 0, .complex .f32 1060439283 0]) (by simp [results, Try.results75, go_sem]) rfl ?_
    exact ⟨rfl, (Below.refl _ _).alloc (Nat.le_refl _) _⟩
  · show Calls _ _ _ _ fun e w' => e = .returned (quad 1060439283 0 0 0 0 0 3207922931 2147483648) ∧ _
    unfold quad
    have hn := neg_half
    go_enter Try.func75, Try.ntmps75
    go_wp2_with (go_at_call 79; refine (half_root _).mono ?_; rintro e w' ⟨rfl, rfl⟩)
    refine bodyPost_ret (v := .agg #[.complex .f32 1060439283 0, .complex .f32 0 0, .complex .f32 0 0, .complex .f32 3207922931 2147483648]) (by simp [results, Try.results75, go_sem]) rfl ?_
    exact ⟨rfl, (Below.refl _ _).alloc (Nat.le_refl _) _⟩
  · show Calls _ _ _ _ fun e w' => e = .returned (quad 0 0 1060439283 0 1060439283 0 0 0) ∧ _
    unfold quad
    go_enter Try.func75, Try.ntmps75
    go_wp2_with (go_at_call 79; refine (half_root _).mono ?_; rintro e w' ⟨rfl, rfl⟩)
    refine bodyPost_ret (v := .agg #[.complex .f32 0 0, .complex .f32 1060439283 0, .complex .f32 1060439283 0, .complex .f32 0 0]) (by simp [results, Try.results75, go_sem]) rfl ?_
    exact ⟨rfl, (Below.refl _ _).alloc (Nat.le_refl _) _⟩
  · show Calls _ _ _ _ fun e w' => e = .returned (quad 0 0 1060439283 0 3207922931 2147483648 0 0) ∧ _
    unfold quad
    have hn := neg_half
    go_enter Try.func75, Try.ntmps75
    go_wp2_with (go_at_call 79; refine (half_root _).mono ?_; rintro e w' ⟨rfl, rfl⟩)
    refine bodyPost_ret (v := .agg #[.complex .f32 0 0, .complex .f32 1060439283 0, .complex .f32 3207922931 2147483648, .complex .f32 0 0]) (by simp [results, Try.results75, go_sem]) rfl ?_
    exact ⟨rfl, (Below.refl _ _).alloc (Nat.le_refl _) _⟩
/-- The call hands back four complex numbers with a code. -/
def TellsQ (v : Value) (k : Int) (w : World) (e : Ending) (w' : World) : Prop := e = .returned (.tuple #[v, .int .i64 k]) ∧ Below w.heap.size w w'
theorem quad_zero (w : World) : (zeroValue 36).run Try.prog w = .ok (quad 0 0 0 0 0 0 0 0) w := by kernel_rfl
theorem l01In_any (n lo hi : Int) (w : World) : Calls Try.prog 74 #[.int .i64 n, .int .i64 lo, .int .i64 hi] w fun e w' => e = .returned (.bool (decide (lo ≤ n) && decide (n ≤ hi))) ∧ w = w' := by
  go_enter Try.func74, Try.ntmps74
  go_wp2
  · have h : lo ≤ n := by assumption
    go_ret
    exact ⟨by simp [h], rfl⟩
  · have h : n < lo := by assumption
    go_ret
    exact ⟨by simp; omega, rfl⟩
theorem within_any (n lo hi : Int) (w : World) : Calls Try.prog 77 #[.int .i64 n, .int .i64 lo, .int .i64 hi] w fun e w' => e = .returned (.bool (decide (lo ≤ n) && decide (n ≤ hi))) ∧ w = w' := by
  go_enter Try.func77, Try.ntmps77
  go_wp2
  · have h : lo ≤ n := by assumption
    go_ret
    exact ⟨by simp [h], rfl⟩
  · have h : n < lo := by assumption
    go_ret
    exact ⟨by simp; omega, rfl⟩
/-- What the reference tells of k, before zeros' signs are struck. -/
def bellRV (k : Int) : Value := if 0 ≤ k ∧ k ≤ 3 then bellR k else quad 0 0 0 0 0 0 0 0
def bellC (k : Int) : Int := if 0 ≤ k ∧ k ≤ 3 then 0 else 2
theorem bellR_quad (k : Int) : ∃ a b c d e f g h, bellR k = quad a b c d e f g h := by
  unfold bellR
  split
  · exact ⟨_, _, _, _, _, _, _, _, rfl⟩
  · split
    · exact ⟨_, _, _, _, _, _, _, _, rfl⟩
    · split
      · exact ⟨_, _, _, _, _, _, _, _, rfl⟩
      · exact ⟨_, _, _, _, _, _, _, _, rfl⟩
theorem specBell1_any (k : Int) (w : World) : Calls Try.prog 41 #[.int .i64 k] w (TellsQ (bellRV k) (bellC k) w) := by
  unfold TellsQ bellRV bellC
  by_cases hk : 0 ≤ k ∧ k ≤ 3
  · have hd : (decide (0 ≤ k) && decide (k ≤ 3)) = true := by simp [hk]
    simp only [if_pos hk]
    obtain ⟨a, b, c, d, e, f, g, h, hq⟩ := bellR_quad k
    have hB := fun w => l07Bell_any k w hk.1 hk.2
    rw [hq] at hB ⊢
    have HB := Lib.hid hB; clear hB hq hk
    unfold quad at *
    have X := row4_new w (.complex .f32 0 0) (.complex .f32 0 0) (.complex .f32 0 0) (.complex .f32 0 0) 36
    have b0 : Below w.heap.size w (w.alloc (.cells #[.complex .f32 0 0, .complex .f32 0 0, .complex .f32 0 0, .complex .f32 0 0] 36)) := (Below.refl _ _).alloc (Nat.le_refl _) _
    go_enter Try.func41, Try.ntmps41
    go_wp2_with (go_at_call 74; refine (l01In_any k 0 3 _).mono ?_; rintro e w' ⟨rfl, rfl⟩; rw [hd])
    refine (HB.out _).mono ?_
    rintro e w1 ⟨rfl, b1⟩
    have X1 := Lib.hid (X.below b1 X.lt)
    have B1 := Lib.hid (b0.trans (b1.mono b0.size))
    clear X b0 b1
    obtain ⟨c0, c1, c2, c3⟩ := X1.out.cells
    have g0 := X1.out.frozen 0
    have g1 := X1.out.frozen 1
    have g2 := X1.out.frozen 2
    have g3 := X1.out.frozen 3
    go_wp2
    obtain ⟨k0, k1, k2, k3⟩ := (X1.out.put (.complex .f32 a b) (.complex .f32 c d) (.complex .f32 e f) (.complex .f32 g h)).cells
    refine bodyPost_ret (v := .tuple #[.agg #[.complex .f32 a b, .complex .f32 c d, .complex .f32 e f, .complex .f32 g h], .int .i64 0]) (by simp [results, Try.results41, go_sem, c0, c1, c2, c3]) rfl ?_
    exact ⟨rfl, below_set4 B1.out (Nat.le_refl _) _ _ _ _⟩
  · have hd : (decide (0 ≤ k) && decide (k ≤ 3)) = false := by simp; omega
    simp only [if_neg hk]
    unfold quad
    go_enter Try.func41, Try.ntmps41
    go_wp2_with (go_at_call 74; refine (l01In_any k 0 3 _).mono ?_; rintro e w' ⟨rfl, rfl⟩; rw [hd])
    refine bodyPost_ret (v := .tuple #[.agg #[.complex .f32 0 0, .complex .f32 0 0, .complex .f32 0 0, .complex .f32 0 0], .int .i64 2]) (by simp [results, Try.results41, go_sem]) rfl ?_
    exact ⟨rfl, (Below.refl _ _).alloc (Nat.le_refl _) _⟩
end Go.Proofs.Ytkfahacnanlnfaa
namespace Go.Proofs.Ytkfahacnanlnfaa
open Go.RowKit Ieee

theorem l00Complex_any (a b : Nat) (w : World) : Calls Try.prog 76 #[.complex .f32 a b] w fun e w' => e = .returned (.complex .f32 (cz a) (cz b)) ∧ w = w' := by
  go_enter Try.func76, Try.ntmps76
  go_wp2_with (go_at_call 34; refine (l00Float_any _ _).mono ?_; rintro e w' ⟨rfl, rfl⟩)
  go_ret
  exact ⟨rfl, rfl⟩
set_option maxHeartbeats 2000000 in
theorem l00Pair_any (a b c d e f g h : Nat) (w : World) : Calls Try.prog 42 #[quad a b c d e f g h] w fun e' w' => e' = .returned (quad (cz a) (cz b) (cz c) (cz d) (cz e) (cz f) (cz g) (cz h)) ∧ Below w.heap.size w w' := by
  have X := (row4_new w (.complex .f32 a b) (.complex .f32 c d) (.complex .f32 e f) (.complex .f32 g h) 36).alloc (.cells #[.complex .f32 0 0, .complex .f32 0 0, .complex .f32 0 0, .complex .f32 0 0] 36)
  have Y := row4_new (w.alloc (.cells #[.complex .f32 a b, .complex .f32 c d, .complex .f32 e f, .complex .f32 g h] 36)) (.complex .f32 0 0) (.complex .f32 0 0) (.complex .f32 0 0) (.complex .f32 0 0) 36
  simp only [World.size_alloc] at Y
  have b0 : Below w.heap.size w ((w.alloc (.cells #[.complex .f32 a b, .complex .f32 c d, .complex .f32 e f, .complex .f32 g h] 36)).alloc (.cells #[.complex .f32 0 0, .complex .f32 0 0, .complex .f32 0 0, .complex .f32 0 0] 36)) := ((Below.refl _ _).alloc (Nat.le_refl _) _).alloc (by simp) _
  obtain ⟨c0, c1, c2, c3⟩ := X.cells
  obtain ⟨e0, e1, e2, e3⟩ := Y.cells
  have g0 := Y.frozen 0
  have g1 := Y.frozen 1
  have g2 := Y.frozen 2
  have g3 := Y.frozen 3
  have Y1 := Lib.hid Y; clear Y
  have B1 := Lib.hid b0; clear b0
  clear X
  unfold quad
  go_enter Try.func42, Try.ntmps42
  go_wp2_with fail
  generalize ((w.alloc (.cells #[.complex .f32 a b, .complex .f32 c d, .complex .f32 e f, .complex .f32 g h] 36)).alloc (.cells #[.complex .f32 0 0, .complex .f32 0 0, .complex .f32 0 0, .complex .f32 0 0] 36)) = w1 at *
  go_region_held3 (fun w' => w'.cell? ⟨w.heap.size, 0, none⟩ = some (.complex .f32 a b) ∧ w'.cell? ⟨w.heap.size, 1, none⟩ = some (.complex .f32 c d) ∧ w'.cell? ⟨w.heap.size, 2, none⟩ = some (.complex .f32 e f) ∧ w'.cell? ⟨w.heap.size, 3, none⟩ = some (.complex .f32 g h)) (go_keep) (first | (go_at_call 76; refine (l00Complex_any _ _ _).mono ?_; rintro e w' ⟨rfl, rfl⟩))
  all_goals
    go_wp2
    obtain ⟨k0, k1, k2, k3⟩ := (Y1.out.put (.complex .f32 (cz a) (cz b)) (.complex .f32 (cz c) (cz d)) (.complex .f32 (cz e) (cz f)) (.complex .f32 (cz g) (cz h))).cells
    refine bodyPost_ret (v := .agg #[.complex .f32 (cz a) (cz b), .complex .f32 (cz c) (cz d), .complex .f32 (cz e) (cz f), .complex .f32 (cz g) (cz h)]) (by simp [results, Try.results42, go_sem, e0, e1, e2, e3]) rfl ?_
    exact ⟨rfl, (below_set4 B1.out (Nat.le_succ _) _ _ _ _).drew⟩
theorem l00Pair_agg (a b c d e f g h : Nat) (w : World) : Calls Try.prog 42 #[.agg #[.complex .f32 a b, .complex .f32 c d, .complex .f32 e f, .complex .f32 g h]] w fun e' w' => e' = .returned (.agg #[.complex .f32 (cz a) (cz b), .complex .f32 (cz c) (cz d), .complex .f32 (cz e) (cz f), .complex .f32 (cz g) (cz h)]) ∧ Below w.heap.size w w' := l00Pair_any a b c d e f g h w

/-- What k is told as. -/
def bellV (k : Int) : Value := if 0 ≤ k ∧ k ≤ 3 then (if k = 0 then quad 1060439283 0 0 0 0 0 1060439283 0 else if k = 1 then quad 1060439283 0 0 0 0 0 3207922931 0 else if k = 2 then quad 0 0 1060439283 0 1060439283 0 0 0 else quad 0 0 1060439283 0 3207922931 0 0 0) else quad 0 0 0 0 0 0 0 0
theorem czs : cz 1060439283 = 1060439283 ∧ cz 0 = 0 ∧ cz 3207922931 = 3207922931 ∧ cz 2147483648 = 0 := by decide +kernel
theorem bell_parts (k : Int) : ∃ a b c d e f g h, bellRV k = quad a b c d e f g h ∧ bellV k = quad (cz a) (cz b) (cz c) (cz d) (cz e) (cz f) (cz g) (cz h) := by
  obtain ⟨z1, z2, z3, z4⟩ := czs
  unfold bellRV bellV bellR
  by_cases hk : 0 ≤ k ∧ k ≤ 3
  · rw [if_pos hk, if_pos hk]
    by_cases h0 : k = 0
    · rw [if_pos h0, if_pos h0]; exact ⟨_, _, _, _, _, _, _, _, rfl, by rw [z1, z2]⟩
    · rw [if_neg h0, if_neg h0]
      by_cases h1 : k = 1
      · rw [if_pos h1, if_pos h1]; exact ⟨_, _, _, _, _, _, _, _, rfl, by rw [z1, z2, z3, z4]⟩
      · rw [if_neg h1, if_neg h1]
        by_cases h2 : k = 2
        · rw [if_pos h2, if_pos h2]; exact ⟨_, _, _, _, _, _, _, _, rfl, by rw [z1, z2]⟩
        · rw [if_neg h2, if_neg h2]; exact ⟨_, _, _, _, _, _, _, _, rfl, by rw [z1, z2, z3, z4]⟩
  · rw [if_neg hk, if_neg hk]; exact ⟨_, _, _, _, _, _, _, _, rfl, by rw [z2]⟩
set_option maxHeartbeats 1000000 in
theorem specBell_any (k : Int) (w : World) : Calls Try.prog 16 #[.int .i64 k] w (TellsQ (bellV k) (bellC k) w) := by
  obtain ⟨a, b, c, d, p, f, g, h, h1, h2⟩ := bell_parts k
  have hs := fun w => specBell1_any k w
  rw [h1] at hs
  rw [h2]
  have HS := Lib.hid hs; clear hs h1 h2
  generalize bellC k = q at *
  unfold TellsQ quad at *
  have X := row4_new w (.complex .f32 0 0) (.complex .f32 0 0) (.complex .f32 0 0) (.complex .f32 0 0) 36
  have b0 : Below w.heap.size w (w.alloc (.cells #[.complex .f32 0 0, .complex .f32 0 0, .complex .f32 0 0, .complex .f32 0 0] 36)) := (Below.refl _ _).alloc (Nat.le_refl _) _
  go_enter Try.func16, Try.ntmps16
  go_wp2_with fail
  refine (HS.out _).mono ?_
  rintro e w1 ⟨rfl, b1⟩
  have X1 := Lib.hid (X.below b1 X.lt)
  have B1 := Lib.hid (b0.trans (b1.mono b0.size))
  clear X b0 b1
  have lt := X1.out.lt
  go_wp2_with fail
  refine (l00Pair_agg a b c d p f g h _).mono ?_
  rintro e w2 ⟨rfl, b2⟩
  have X2 := Lib.hid ((X1.out.alloc (.cells #[.complex .f32 a b, .complex .f32 c d, .complex .f32 p f, .complex .f32 g h] 36)).below b2 (X1.out.alloc _).lt)
  have B2 := Lib.hid ((B1.out.alloc B1.out.size _).trans (b2.mono (Nat.le_trans B1.out.size (by simp))))
  clear b2 lt
  obtain ⟨c0, c1, c2, c3⟩ := X2.out.cells
  have g0 := X2.out.frozen 0
  have g1 := X2.out.frozen 1
  have g2 := X2.out.frozen 2
  have g3 := X2.out.frozen 3
  go_wp2
  obtain ⟨k0, k1, k2, k3⟩ := (X2.out.put (.complex .f32 (cz a) (cz b)) (.complex .f32 (cz c) (cz d)) (.complex .f32 (cz p) (cz f)) (.complex .f32 (cz g) (cz h))).cells
  refine bodyPost_ret (v := .tuple #[.agg #[.complex .f32 (cz a) (cz b), .complex .f32 (cz c) (cz d), .complex .f32 (cz p) (cz f), .complex .f32 (cz g) (cz h)], .int .i64 q]) (by simp [results, Try.results16, go_sem, c0, c1, c2, c3]) rfl ?_
  exact ⟨rfl, below_set4 B2.out (Nat.le_refl _) _ _ _ _⟩
end Go.Proofs.Ytkfahacnanlnfaa
