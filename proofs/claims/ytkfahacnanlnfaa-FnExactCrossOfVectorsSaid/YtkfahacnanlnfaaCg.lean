/- The cross product, the implementation's reckoner. -/
import Derived.Test.YtkfahacnanlnfaaCf
namespace Go.Proofs.Ytkfahacnanlnfaa
open Go.RowKit Ieee

/-- One part, as the reckoner makes it: the code and the value. -/
def crC (c : Int) (p q r s : Nat) : Int := stpC (stpC (stpC c (op32 .mul p q)) (op32 .mul r s)) (op32 .sub (stpV c (op32 .mul p q)) (stpV (stpC c (op32 .mul p q)) (op32 .mul r s)))
def crV (c : Int) (p q r s : Nat) : Nat := stpV (stpC (stpC c (op32 .mul p q)) (op32 .mul r s)) (op32 .sub (stpV c (op32 .mul p q)) (stpV (stpC c (op32 .mul p q)) (op32 .mul r s)))
def xC1 (_a b c _a' b' c' : Nat) : Int := crC 0 b c' c b'
def xC2 (a b c a' b' c' : Nat) : Int := crC (xC1 a b c a' b' c') c a' a c'
def xC3 (a b c a' b' c' : Nat) : Int := crC (xC2 a b c a' b' c') a b' b a'
def xV1 (_a b c _a' b' c' : Nat) : Nat := crV 0 b c' c b'
def xV2 (a b c a' b' c' : Nat) : Nat := crV (xC1 a b c a' b' c') c a' a c'
def xV3 (a b c a' b' c' : Nat) : Nat := crV (xC2 a b c a' b' c') a b' b a'
/-- What lies there while the reckoner works. -/
def At (w : World) (B T U : Nat) (a b c a' b' c' : Nat) (k : Int) (x y z : Nat) (w' : World) : Prop :=
  CalcAt w' B k ∧ Box3 w' w.heap.size a b c ∧ Box3 w' (w.heap.size + 1) a' b' c' ∧ Box3 w' T 0 0 0 ∧ Box3 w' U x y z ∧ w.grownBy w' (some B)
theorem grownBy_drewB {a w : World} {row : Option Nat} (h : a.grownBy w row) : a.grownBy w.drew row := ⟨h.os, h.tape, h.output, h.size, h.block⟩
section
variable {w w1 w2 : World} {B T U a b c a' b' c' : Nat} {k k' : Int} {x y z : Nat}
theorem At.drew (h : At w B T U a b c a' b' c' k x y z w1) : At w B T U a b c a' b' c' k x y z w1.drew :=
  ⟨h.1, h.2.1, h.2.2.1, h.2.2.2.1, h.2.2.2.2.1, grownBy_drewB h.2.2.2.2.2⟩
theorem At.step (h : At w B T U a b c a' b' c' k x y z w1) (hc : CalcAt w2 B k') (hg : w1.grownBy w2 (some B)) (hB : B < w.heap.size) (hT : w.heap.size < T) (hU : w.heap.size < U) : At w B T U a b c a' b' c' k' x y z w2 :=
  ⟨hc, h.2.1.grown hg (by intro e; cases e; omega), h.2.2.1.grown hg (by intro e; cases e; omega), h.2.2.2.1.grown hg (by intro e; cases e; omega), h.2.2.2.2.1.grown hg (by intro e; cases e; omega), h.2.2.2.2.2.trans hg⟩
theorem grownBy_setHigh {w w' : World} {row : Option Nat} (h : w.grownBy w' row) (p : Addr) (v : Value) (hp : w.heap.size ≤ p.block) : w.grownBy (w'.setCell p v) row :=
  ⟨h.os, h.tape, h.output, by simpa [World.setCell] using h.size, fun k hk hne => (Below.heap_setCell w' p v k (by omega)).trans (h.block k hk hne)⟩
theorem At.set (h : At w B T U a b c a' b' c' k x y z w1) (hB : B < w.heap.size) (hT : T ≠ U) (h0 : w.heap.size < U) (h1 : w.heap.size + 1 < U) (v : Nat) :
    At w B T U a b c a' b' c' k v y z (w1.setCell ⟨U, 0, none⟩ (.float .f32 v)) ∧ At w B T U a b c a' b' c' k x v z (w1.setCell ⟨U, 1, none⟩ (.float .f32 v)) ∧ At w B T U a b c a' b' c' k x y v (w1.setCell ⟨U, 2, none⟩ (.float .f32 v)) := by
  obtain ⟨hc, hx, hy, hz, hu, hg⟩ := h
  have n0 : B ≠ U := by omega
  have n1 : w.heap.size ≠ U := by omega
  have n2 : w.heap.size + 1 ≠ U := by omega
  exact ⟨⟨(Below.heap_setCell _ _ _ _ n0).trans hc, hx.other n1 _, hy.other n2 _, hz.other hT _, (hu.set v).1, grownBy_setHigh hg _ _ (Nat.le_of_lt h0)⟩,
    ⟨(Below.heap_setCell _ _ _ _ n0).trans hc, hx.other n1 _, hy.other n2 _, hz.other hT _, (hu.set v).2.1, grownBy_setHigh hg _ _ (Nat.le_of_lt h0)⟩,
    (Below.heap_setCell _ _ _ _ n0).trans hc, hx.other n1 _, hy.other n2 _, hz.other hT _, (hu.set v).2.2, grownBy_setHigh hg _ _ (Nat.le_of_lt h0)⟩
end
theorem at_start (B : Nat) (a b c a' b' c' : Nat) (w : World) (h : CalcAt w B 0) : ∃ w1, w1 = ((((w.alloc (.cells #[.float .f32 a, .float .f32 b, .float .f32 c] 26)).alloc (.cells #[.float .f32 a', .float .f32 b', .float .f32 c'] 26)).alloc (.cells #[.float .f32 0, .float .f32 0, .float .f32 0] 26)).alloc (.cells #[.float .f32 0, .float .f32 0, .float .f32 0] 26)) ∧
    At w B (w.heap.size + 1 + 1) (w.heap.size + 1 + 1 + 1) a b c a' b' c' 0 0 0 0 w1 := by
  obtain ⟨w1, rfl, X, Y, Z, b0⟩ := boxes3 w a b c a' b' c'
  have hz := box3_new (((w.alloc (.cells #[.float .f32 a, .float .f32 b, .float .f32 c] 26)).alloc (.cells #[.float .f32 a', .float .f32 b', .float .f32 c'] 26)).alloc (.cells #[.float .f32 0, .float .f32 0, .float .f32 0] 26)) 0 0 0
  have b1 := b0.alloc b0.size (.cells #[.float .f32 0, .float .f32 0, .float .f32 0] 26)
  simp only [World.size_alloc] at hz
  exact ⟨_, rfl, h.below b1 h.lt, X.alloc _, Y.alloc _, Z.alloc _, hz, toGrown b1 _⟩

set_option maxHeartbeats 8000000 in
theorem crossR_any (B : Nat) (a b c a' b' c' : Nat) (w : World) (h : CalcAt w B 0) (f0 : finV a b c = true) (f1 : finV a' b' c' = true) :
    Calls Try.prog 40 #[.pointer (some ⟨B, 0, none⟩), vec a b c, vec a' b' c'] w fun e w' =>
      e = .returned (vec (xV1 a b c a' b' c') (xV2 a b c a' b' c') (xV3 a b c a' b' c')) ∧ CalcAt w' B (xC3 a b c a' b' c') ∧ w.grownBy w' (some B) := by
  obtain ⟨p0, p1, p2⟩ := finV_and f0
  obtain ⟨q0, q1, q2⟩ := finV_and f1
  clear f0 f1
  obtain ⟨w1, hw1, A0⟩ := at_start B a b c a' b' c' w h
  have hB := h.lt
  clear h
  unfold vec
  go_enter Try.func40, Try.ntmps40
  go_wp2
  rw [← hw1]
  clear hw1
  obtain ⟨T, hT⟩ : ∃ T, w.heap.size + 1 + 1 = T := ⟨_, rfl⟩
  obtain ⟨U, hU⟩ : ∃ U, T + 1 = U := ⟨_, rfl⟩
  rw [hT, hU] at A0 ⊢
  have t1 : w.heap.size < T := by omega
  have t2 : w.heap.size + 1 < T := by omega
  have t3 : w.heap.size < U := by omega
  have t4 : w.heap.size + 1 < U := by omega
  have t5 : T ≠ U := by omega
  have t6 : U ≠ T := by omega
  have t7 : w.heap.size ≠ U := by omega
  have t8 : U ≠ w.heap.size := by omega
  have t9 : w.heap.size + 1 ≠ U := by omega
  have t10 : U ≠ w.heap.size + 1 := by omega
  have t11 : B ≠ U := by omega
  have t12 : U ≠ B := by omega
  clear hT hU
  have AT := Lib.hid A0; clear A0
  go_loopw [12] (fun i wr => (i = .int .i64 0 ∧ At w B T U a b c a' b' c' 0 0 0 0 wr) ∨ (i = .int .i64 1 ∧ At w B T U a b c a' b' c' (xC1 a b c a' b' c') (xV1 a b c a' b' c') 0 0 wr) ∨
    (i = .int .i64 2 ∧ At w B T U a b c a' b' c' (xC2 a b c a' b' c') (xV1 a b c a' b' c') (xV2 a b c a' b' c') 0 wr) ∨ (i = .int .i64 3 ∧ At w B T U a b c a' b' c' (xC3 a b c a' b' c') (xV1 a b c a' b' c') (xV2 a b c a' b' c') (xV3 a b c a' b' c') wr)) (fun i _ => 3 - (intOf i).toNat)
  case atStart => exact .inl ⟨rfl, AT.out⟩
  case round =>
    clear AT
    rcases hrel with ⟨rfl, hat⟩ | ⟨rfl, hat⟩ | ⟨rfl, hat⟩ | ⟨rfl, hat⟩
    · have A1 := Lib.hid hat; clear hat
      obtain ⟨c0, c1, c2⟩ := A1.out.2.1.cells
      obtain ⟨d0, d1, d2⟩ := A1.out.2.2.1.cells
      go_wp2
      go_region_held3 (fun w' => w'.cell? ⟨w.heap.size, 0, none⟩ = some (.float .f32 a) ∧ w'.cell? ⟨w.heap.size, 1, none⟩ = some (.float .f32 b) ∧ w'.cell? ⟨w.heap.size, 2, none⟩ = some (.float .f32 c) ∧ w'.cell? ⟨w.heap.size + 1, 0, none⟩ = some (.float .f32 a') ∧ w'.cell? ⟨w.heap.size + 1, 1, none⟩ = some (.float .f32 b') ∧ w'.cell? ⟨w.heap.size + 1, 2, none⟩ = some (.float .f32 c')) (go_keep) (first
        | (go_at_call 52; refine (mul_any B _ _ _ _ A1.out.drew.1 (by assumption) (by assumption)).mono ?_; rintro e w2 ⟨rfl, hc, hg⟩; have A2 := Lib.hid (At.step A1.out.drew hc hg hB t1 t3); clear hc hg; obtain ⟨x0, x1, x2⟩ := A2.out.2.1.cells; obtain ⟨y0, y1, y2⟩ := A2.out.2.2.1.cells))
      clear c0 c1 c2 d0 d1 d2
      obtain ⟨c0, c1, c2⟩ := A2.out.2.1.cells
      obtain ⟨d0, d1, d2⟩ := A2.out.2.2.1.cells
      go_wp2
      go_region_held3 (fun w' => w'.cell? ⟨w.heap.size, 0, none⟩ = some (.float .f32 a) ∧ w'.cell? ⟨w.heap.size, 1, none⟩ = some (.float .f32 b) ∧ w'.cell? ⟨w.heap.size, 2, none⟩ = some (.float .f32 c) ∧ w'.cell? ⟨w.heap.size + 1, 0, none⟩ = some (.float .f32 a') ∧ w'.cell? ⟨w.heap.size + 1, 1, none⟩ = some (.float .f32 b') ∧ w'.cell? ⟨w.heap.size + 1, 2, none⟩ = some (.float .f32 c')) (go_keep) (first
        | (go_at_call 52; refine (mul_any B _ _ _ _ A2.out.drew.1 (by assumption) (by assumption)).mono ?_; rintro e w3 ⟨rfl, hc, hg⟩; have A3 := Lib.hid (At.step A2.out.drew hc hg hB t1 t3); clear hc hg; obtain ⟨x0, x1, x2⟩ := A3.out.2.1.cells; obtain ⟨y0, y1, y2⟩ := A3.out.2.2.1.cells)
        | (go_at_call 51; refine (csub_any B _ _ _ _ A3.out.1 (fin_stpV _ _) (fin_stpV _ _)).mono ?_; rintro e w4 ⟨rfl, hc, hg⟩; have A4 := Lib.hid (At.step A3.out hc hg hB t1 t3); clear hc hg; obtain ⟨x0, x1, x2⟩ := A4.out.2.1.cells; obtain ⟨y0, y1, y2⟩ := A4.out.2.2.1.cells; obtain ⟨z0, z1, z2⟩ := A4.out.2.2.2.2.1.cells; have g0 := Box3.frozen A4.out.2.2.2.2.1 0; have g1 := Box3.frozen A4.out.2.2.2.2.1 1; have g2 := Box3.frozen A4.out.2.2.2.2.1 2))
      all_goals
        go_wp2
        have X := (A4.out.set hB t5 t3 t4 (xV1 a b c a' b' c')).1
        first | exact ⟨.inr (.inl ⟨rfl, X⟩), by decide⟩ | (have X := X.drew; first | exact ⟨.inr (.inl ⟨rfl, X⟩), by decide⟩ | (have X := X.drew; exact ⟨.inr (.inl ⟨rfl, X⟩), by decide⟩))
    · have A1 := Lib.hid hat; clear hat
      obtain ⟨c0, c1, c2⟩ := A1.out.2.1.cells
      obtain ⟨d0, d1, d2⟩ := A1.out.2.2.1.cells
      go_wp2
      go_region_held3 (fun w' => w'.cell? ⟨w.heap.size, 0, none⟩ = some (.float .f32 a) ∧ w'.cell? ⟨w.heap.size, 1, none⟩ = some (.float .f32 b) ∧ w'.cell? ⟨w.heap.size, 2, none⟩ = some (.float .f32 c) ∧ w'.cell? ⟨w.heap.size + 1, 0, none⟩ = some (.float .f32 a') ∧ w'.cell? ⟨w.heap.size + 1, 1, none⟩ = some (.float .f32 b') ∧ w'.cell? ⟨w.heap.size + 1, 2, none⟩ = some (.float .f32 c')) (go_keep) (first
        | (go_at_call 52; refine (mul_any B _ _ _ _ A1.out.drew.1 (by assumption) (by assumption)).mono ?_; rintro e w2 ⟨rfl, hc, hg⟩; have A2 := Lib.hid (At.step A1.out.drew hc hg hB t1 t3); clear hc hg; obtain ⟨x0, x1, x2⟩ := A2.out.2.1.cells; obtain ⟨y0, y1, y2⟩ := A2.out.2.2.1.cells))
      clear c0 c1 c2 d0 d1 d2
      obtain ⟨c0, c1, c2⟩ := A2.out.2.1.cells
      obtain ⟨d0, d1, d2⟩ := A2.out.2.2.1.cells
      go_wp2
      go_region_held3 (fun w' => w'.cell? ⟨w.heap.size, 0, none⟩ = some (.float .f32 a) ∧ w'.cell? ⟨w.heap.size, 1, none⟩ = some (.float .f32 b) ∧ w'.cell? ⟨w.heap.size, 2, none⟩ = some (.float .f32 c) ∧ w'.cell? ⟨w.heap.size + 1, 0, none⟩ = some (.float .f32 a') ∧ w'.cell? ⟨w.heap.size + 1, 1, none⟩ = some (.float .f32 b') ∧ w'.cell? ⟨w.heap.size + 1, 2, none⟩ = some (.float .f32 c')) (go_keep) (first
        | (go_at_call 52; refine (mul_any B _ _ _ _ A2.out.drew.1 (by assumption) (by assumption)).mono ?_; rintro e w3 ⟨rfl, hc, hg⟩; have A3 := Lib.hid (At.step A2.out.drew hc hg hB t1 t3); clear hc hg; obtain ⟨x0, x1, x2⟩ := A3.out.2.1.cells; obtain ⟨y0, y1, y2⟩ := A3.out.2.2.1.cells)
        | (go_at_call 51; refine (csub_any B _ _ _ _ A3.out.1 (fin_stpV _ _) (fin_stpV _ _)).mono ?_; rintro e w4 ⟨rfl, hc, hg⟩; have A4 := Lib.hid (At.step A3.out hc hg hB t1 t3); clear hc hg; obtain ⟨x0, x1, x2⟩ := A4.out.2.1.cells; obtain ⟨y0, y1, y2⟩ := A4.out.2.2.1.cells; obtain ⟨z0, z1, z2⟩ := A4.out.2.2.2.2.1.cells; have g0 := Box3.frozen A4.out.2.2.2.2.1 0; have g1 := Box3.frozen A4.out.2.2.2.2.1 1; have g2 := Box3.frozen A4.out.2.2.2.2.1 2))
      all_goals
        go_wp2
        have X := (A4.out.set hB t5 t3 t4 (xV2 a b c a' b' c')).2.1
        first | exact ⟨.inr (.inr (.inl ⟨rfl, X⟩)), by decide⟩ | (have X := X.drew; first | exact ⟨.inr (.inr (.inl ⟨rfl, X⟩)), by decide⟩ | (have X := X.drew; exact ⟨.inr (.inr (.inl ⟨rfl, X⟩)), by decide⟩))
    · have A1 := Lib.hid hat; clear hat
      obtain ⟨c0, c1, c2⟩ := A1.out.2.1.cells
      obtain ⟨d0, d1, d2⟩ := A1.out.2.2.1.cells
      go_wp2
      go_region_held3 (fun w' => w'.cell? ⟨w.heap.size, 0, none⟩ = some (.float .f32 a) ∧ w'.cell? ⟨w.heap.size, 1, none⟩ = some (.float .f32 b) ∧ w'.cell? ⟨w.heap.size, 2, none⟩ = some (.float .f32 c) ∧ w'.cell? ⟨w.heap.size + 1, 0, none⟩ = some (.float .f32 a') ∧ w'.cell? ⟨w.heap.size + 1, 1, none⟩ = some (.float .f32 b') ∧ w'.cell? ⟨w.heap.size + 1, 2, none⟩ = some (.float .f32 c')) (go_keep) (first
        | (go_at_call 52; refine (mul_any B _ _ _ _ A1.out.drew.1 (by assumption) (by assumption)).mono ?_; rintro e w2 ⟨rfl, hc, hg⟩; have A2 := Lib.hid (At.step A1.out.drew hc hg hB t1 t3); clear hc hg; obtain ⟨x0, x1, x2⟩ := A2.out.2.1.cells; obtain ⟨y0, y1, y2⟩ := A2.out.2.2.1.cells))
      clear c0 c1 c2 d0 d1 d2
      obtain ⟨c0, c1, c2⟩ := A2.out.2.1.cells
      obtain ⟨d0, d1, d2⟩ := A2.out.2.2.1.cells
      go_wp2
      go_region_held3 (fun w' => w'.cell? ⟨w.heap.size, 0, none⟩ = some (.float .f32 a) ∧ w'.cell? ⟨w.heap.size, 1, none⟩ = some (.float .f32 b) ∧ w'.cell? ⟨w.heap.size, 2, none⟩ = some (.float .f32 c) ∧ w'.cell? ⟨w.heap.size + 1, 0, none⟩ = some (.float .f32 a') ∧ w'.cell? ⟨w.heap.size + 1, 1, none⟩ = some (.float .f32 b') ∧ w'.cell? ⟨w.heap.size + 1, 2, none⟩ = some (.float .f32 c')) (go_keep) (first
        | (go_at_call 52; refine (mul_any B _ _ _ _ A2.out.drew.1 (by assumption) (by assumption)).mono ?_; rintro e w3 ⟨rfl, hc, hg⟩; have A3 := Lib.hid (At.step A2.out.drew hc hg hB t1 t3); clear hc hg; obtain ⟨x0, x1, x2⟩ := A3.out.2.1.cells; obtain ⟨y0, y1, y2⟩ := A3.out.2.2.1.cells)
        | (go_at_call 51; refine (csub_any B _ _ _ _ A3.out.1 (fin_stpV _ _) (fin_stpV _ _)).mono ?_; rintro e w4 ⟨rfl, hc, hg⟩; have A4 := Lib.hid (At.step A3.out hc hg hB t1 t3); clear hc hg; obtain ⟨x0, x1, x2⟩ := A4.out.2.1.cells; obtain ⟨y0, y1, y2⟩ := A4.out.2.2.1.cells; obtain ⟨z0, z1, z2⟩ := A4.out.2.2.2.2.1.cells; have g0 := Box3.frozen A4.out.2.2.2.2.1 0; have g1 := Box3.frozen A4.out.2.2.2.2.1 1; have g2 := Box3.frozen A4.out.2.2.2.2.1 2))
      all_goals
        go_wp2
        have X := (A4.out.set hB t5 t3 t4 (xV3 a b c a' b' c')).2.2
        first | exact ⟨.inr (.inr (.inr ⟨rfl, X⟩)), by decide⟩ | (have X := X.drew; first | exact ⟨.inr (.inr (.inr ⟨rfl, X⟩)), by decide⟩ | (have X := X.drew; exact ⟨.inr (.inr (.inr ⟨rfl, X⟩)), by decide⟩))
    · obtain ⟨c0, c1, c2⟩ := hat.2.2.2.2.1.cells
      obtain ⟨d0, d1, d2⟩ := hat.2.2.2.1.cells
      have g0 := hat.2.2.2.1.frozen 0
      have g1 := hat.2.2.2.1.frozen 1
      have g2 := hat.2.2.2.1.frozen 2
      have A1 := Lib.hid hat; clear hat
      go_wp2
      refine bodyPost_ret (v := .agg #[.float .f32 (xV1 a b c a' b' c'), .float .f32 (xV2 a b c a' b' c'), .float .f32 (xV3 a b c a' b' c')]) (by simp [results, Try.results40, go_sem, d0, d1, d2]) rfl ?_
      refine ⟨rfl, ?_, ?_⟩
      · have n0 : B ≠ T := by omega
        exact (Below.heap_setCell _ _ _ _ n0).trans ((Below.heap_setCell _ _ _ _ n0).trans ((Below.heap_setCell _ _ _ _ n0).trans A1.out.1))
      · have n1 : w.heap.size ≤ T := by omega
        exact grownBy_setHigh (grownBy_setHigh (grownBy_setHigh A1.out.2.2.2.2.2 _ _ n1) _ _ n1) _ _ n1
end Go.Proofs.Ytkfahacnanlnfaa
