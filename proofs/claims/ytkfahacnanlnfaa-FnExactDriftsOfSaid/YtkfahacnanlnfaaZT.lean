/- Walks: whether all of some floats are numbers; vectors. -/
/- The inner product of two vectors, both. -/
import Derived.Test.YtkfahacnanlnfaaZWa
namespace Go.Proofs.Ytkfahacnanlnfaa
open Go.RowKit Ieee

def FRd (w : World) (A : Option Addr) (xs : List Nat) : Prop :=
  ∀ k x, xs[k]? = some x → ∃ b off, A = some ⟨b, off, none⟩ ∧ b < w.heap.size ∧ w.cell? ⟨b, off + k, none⟩ = some (.float .f32 x)
theorem FRd.below {w w' : World} {A : Option Addr} {xs : List Nat} (h : FRd w A xs) (hb : Below w.heap.size w w') : FRd w' A xs := by
  intro k p hk
  obtain ⟨b, off, e, hlt, h0⟩ := h k p hk
  exact ⟨b, off, e, Nat.lt_of_lt_of_le hlt hb.size, (hb.cell (p := ⟨b, _, none⟩) hlt).trans h0⟩

theorem notNumber_any (x : Nat) (B : Nat) (w : World) (hc : w.cell? ⟨B, 0, none⟩ = some (.func (.func 49) #[] #[])) :
    Calls Try.prog 103 #[.float .f32 x, .pointer (some ⟨B, 0, none⟩)] w fun e w' => e = .returned (.bool (!fin32 x)) ∧ Below w.heap.size w w' := by
  have hB : B < w.heap.size := World.block_lt_of_cell? w ⟨B, 0, none⟩ hc
  go_enter Try.func103, Try.ntmps103
  go_wp2_with (go_at_call 49; refine (isNumber_any x _).mono ?_; rintro e w' ⟨rfl, hb⟩)
  go_ret
  exact ⟨rfl, hb⟩

def IdxPost (xs : List Nat) (w : World) (e : Ending) (w' : World) : Prop :=
  ∃ r : Int, e = .returned (.int .i64 r) ∧ decide (0 ≤ r) = !(xs.all fin32) ∧ Below w.heap.size w w'
theorem all_ok {xs : List Nat} (h : ∀ j p, j < xs.length → xs[j]? = some p → fin32 p = true) : xs.all fin32 = true := by
  rw [List.all_eq_true]
  intro p hp
  obtain ⟨j, hj, e⟩ := List.mem_iff_getElem.1 hp
  exact h j p hj (by rw [List.getElem?_eq_getElem hj, e])
theorem not_all_ok {xs : List Nat} {k : Nat} {p : Nat} (hk : xs[k]? = some p) (h : fin32 p = false) : xs.all fin32 = false := by
  rw [List.all_eq_false]
  exact ⟨p, List.mem_of_getElem? hk, by simp [h]⟩

theorem indexFunc_any (A : Option Addr) (c B : Nat) (xs : List Nat) (w : World) (hn : xs.length ≤ 1048576) (hr : FRd w A xs) (hc : w.cell? ⟨B, 0, none⟩ = some (.func (.func 49) #[] #[])) :
    Calls Try.prog 130 #[.slice A xs.length c, .func (.func 103) #[] #[.pointer (some ⟨B, 0, none⟩)]] w (IdxPost xs w) := by
  have hB : B < w.heap.size := World.block_lt_of_cell? w ⟨B, 0, none⟩ hc
  go_enter Try.func130, Try.ntmps130
  go_wp2
  go_loopw [8] (fun i wr => ∃ k : Nat, k ≤ xs.length ∧ i = .int .i64 k ∧ (∀ j p, j < k → xs[j]? = some p → fin32 p = true) ∧ Below w.heap.size w wr) (fun i _ => xs.length - (intOf i).toNat)
  case atStart => exact ⟨0, Nat.zero_le _, rfl, fun _ _ h => by omega, Below.refl _ _⟩
  case round =>
    obtain ⟨k, hk, rfl, hall, hbw⟩ := hrel
    by_cases hlt : k < xs.length
    · obtain ⟨p, hp⟩ : ∃ p, xs[k]? = some p := ⟨_, List.getElem?_eq_getElem hlt⟩
      obtain ⟨b, off, rfl, hbl, h0⟩ := (hr.below hbw) k p hp
      have hcw := (hbw.cell (p := ⟨B, 0, none⟩) hB).trans hc
      have HA := Lib.hid hall; clear hall
      have HP := Lib.hid hp; clear hp
      have HC := Lib.hid hc; clear hc
      go_wp2_with (go_at_call 103; refine (notNumber_any p B _ (by assumption)).mono ?_; rintro e w' ⟨rfl, hb⟩)
      · have hb' : (!fin32 p) = true := by assumption
        go_ret
        exact ⟨k, rfl, by rw [not_all_ok HP.out (by simpa using hb')]; simp, hbw.trans (hb.mono hbw.size)⟩
      · have hb' : (!fin32 p) = false := by assumption
        refine ⟨⟨k + 1, by omega, by go_num, fun j q hj hq => ?_, hbw.trans (hb.mono hbw.size)⟩, by simp [intOf]; omega⟩
        rcases Nat.lt_succ_iff_lt_or_eq.1 hj with h | rfl
        · exact HA.out j q h hq
        · have := HP.out.symm.trans hq
          cases this
          simpa using hb'
    · obtain rfl : k = xs.length := by omega
      have HA := Lib.hid hall; clear hall
      go_wp2
      go_ret
      exact ⟨-1, rfl, by rw [all_ok HA.out]; rfl, hbw⟩
theorem containsFunc_any (A : Option Addr) (c B : Nat) (xs : List Nat) (w : World) (hn : xs.length ≤ 1048576) (hr : FRd w A xs) (hc : w.cell? ⟨B, 0, none⟩ = some (.func (.func 49) #[] #[])) :
    Calls Try.prog 102 #[.slice A xs.length c, .func (.func 103) #[] #[.pointer (some ⟨B, 0, none⟩)]] w fun e w' => e = .returned (.bool (!(xs.all fin32))) ∧ Below w.heap.size w w' := by
  have hB : B < w.heap.size := World.block_lt_of_cell? w ⟨B, 0, none⟩ hc
  have HR := Lib.hid hr; clear hr
  have HC := Lib.hid hc; clear hc
  go_enter Try.func102, Try.ntmps102
  go_wp2_with (go_at_call 130; refine (indexFunc_any _ _ _ _ _ hn HR.out HC.out).mono ?_; rintro e w' ⟨r, rfl, hd, hb⟩)
  go_ret
  exact ⟨rfl, hb⟩
theorem areAll_any (A : Option Addr) (c : Nat) (xs : List Nat) (w : World) (hn : xs.length ≤ 1048576) (hr : FRd w A xs) :
    Calls Try.prog 73 #[.slice A xs.length c, .func (.func 49) #[] #[]] w fun e w' => e = .returned (.bool (xs.all fin32)) ∧ Below w.heap.size w w' := by
  have HR := Lib.hid hr; clear hr
  go_enter Try.func73, Try.ntmps73
  go_wp2_with (go_at_call 102; refine (containsFunc_any _ _ _ _ _ hn (HR.out.below ((Below.refl _ _).alloc (Nat.le_refl _) _)) (by simp)).mono ?_; rintro e w' ⟨rfl, hb⟩)
  go_ret
  exact ⟨by simp, ((Below.refl _ _).alloc (Nat.le_refl _) _).trans (hb.mono (by simp))⟩

def vec (a b c : Nat) : Value := .agg #[.float .f32 a, .float .f32 b, .float .f32 c]
def finV (a b c : Nat) : Bool := [a, b, c].all fin32
/-- Block B holds the vector (a, b, c). -/
def Box3 (w : World) (B a b c : Nat) : Prop := ∃ t, w.heap[B]? = some (.cells #[.float .f32 a, .float .f32 b, .float .f32 c] t (0, 0))
section
variable {w w' : World} {B a b c : Nat}
theorem Box3.lt (h : Box3 w B a b c) : B < w.heap.size := by
  obtain ⟨t, h⟩ := h
  exact (Array.getElem?_eq_some_iff.1 h).1
theorem Box3.cells (h : Box3 w B a b c) : w.cell? ⟨B, 0, none⟩ = some (.float .f32 a) ∧ w.cell? ⟨B, 1, none⟩ = some (.float .f32 b) ∧ w.cell? ⟨B, 2, none⟩ = some (.float .f32 c) := by
  obtain ⟨t, h⟩ := h
  simp [World.cell?, h]
theorem Box3.frozen (h : Box3 w B a b c) (i : Nat) : w.frozen? ⟨B, i, none⟩ = false := by
  obtain ⟨t, h⟩ := h
  simp [World.frozen?, h]
theorem Box3.keep (h : Box3 w B a b c) (hb : w'.heap[B]? = w.heap[B]?) : Box3 w' B a b c := by
  obtain ⟨t, h⟩ := h
  exact ⟨t, hb.trans h⟩
theorem Box3.below {K : Nat} (h : Box3 w B a b c) (hb : Below K w w') (hK : B < K) : Box3 w' B a b c := h.keep (hb.block B hK)
theorem Box3.grown {row : Option Nat} (h : Box3 w B a b c) (hg : w.grownBy w' row) (hr : some B ≠ row) : Box3 w' B a b c := h.keep (hg.block B h.lt hr)
theorem box3_newT (w : World) (a b c : Nat) (t : TypeId) : Box3 (w.alloc (.cells #[.float .f32 a, .float .f32 b, .float .f32 c] t)) w.heap.size a b c := ⟨t, heap_alloc_new w _⟩
theorem box3_new (w : World) (a b c : Nat) : Box3 (w.alloc (.cells #[.float .f32 a, .float .f32 b, .float .f32 c] 26)) w.heap.size a b c := box3_newT w a b c 26
theorem Box3.alloc (h : Box3 w B a b c) (o : Obj) : Box3 (w.alloc o) B a b c := h.keep (Below.heap_alloc _ _ _ h.lt)
theorem Box3.other (h : Box3 w B a b c) {p : Addr} (hp : B ≠ p.block) (v : Value) : Box3 (w.setCell p v) B a b c := h.keep (Below.heap_setCell _ _ _ _ hp)
theorem Box3.set (h : Box3 w B a b c) (x : Nat) : Box3 (w.setCell ⟨B, 0, none⟩ (.float .f32 x)) B x b c ∧ Box3 (w.setCell ⟨B, 1, none⟩ (.float .f32 x)) B a x c ∧ Box3 (w.setCell ⟨B, 2, none⟩ (.float .f32 x)) B a b x := by
  obtain ⟨t, h⟩ := h
  refine ⟨⟨t, ?_⟩, ⟨t, ?_⟩, t, ?_⟩ <;> simp [World.setCell, Array.getElem?_modify, h]
theorem Box3.frd (h : Box3 w B a b c) : FRd w (some ⟨B, 0, none⟩) [a, b, c] := by
  obtain ⟨h0, h1, h2⟩ := h.cells
  intro k x hk
  refine ⟨B, 0, rfl, h.lt, ?_⟩
  match k, hk with
  | 0, hk => cases hk; exact h0
  | 1, hk => cases hk; exact h1
  | 2, hk => cases hk; exact h2
end
theorem isVector_any (a b c : Nat) (w : World) : Calls Try.prog 38 #[vec a b c] w fun e w' => e = .returned (.bool (finV a b c)) ∧ Below w.heap.size w w' := by
  unfold vec
  go_enter Try.func38, Try.ntmps38
  go_wp2_with fail
  refine (areAll_any (some ⟨w.heap.size, 0, none⟩) 3 [a, b, c] _ (by simp) (box3_new w a b c).frd).mono ?_
  rintro e w1 ⟨rfl, b1⟩
  go_wp2
  go_ret
  exact ⟨by simp [finV], ((Below.refl _ _).alloc (Nat.le_refl _) _).trans (b1.mono (by simp))⟩
theorem l09Is_any (a b c : Nat) (w : World) : Calls Try.prog 66 #[vec a b c] w fun e w' => e = .returned (.bool (finV a b c)) ∧ Below w.heap.size w w' := by
  unfold vec
  have e0 : finV a b c = (fin32 a && (fin32 b && fin32 c)) := by simp [finV]
  rw [e0]
  clear e0
  go_enter Try.func66, Try.ntmps66
  go_wp2_with fail
  refine (l01Fine_any a _).mono ?_
  rintro e w1 ⟨rfl, b1⟩
  have H1 := Lib.hid ((box3_new w a b c).below b1 (by simp))
  have B1 := Lib.hid (((Below.refl _ _).alloc (Nat.le_refl _) _).trans (b1.mono (by simp)) : Below w.heap.size w w1)
  clear b1
  obtain ⟨_, c1, _⟩ := H1.out.cells
  cases fa : fin32 a with
  | false => go_wp2; go_ret; exact ⟨by simp [fa], B1.out⟩
  | true =>
    go_wp2_with fail
    refine (l01Fine_any b _).mono ?_
    rintro e w2 ⟨rfl, b2⟩
    have H2 := Lib.hid (H1.out.below b2 H1.out.lt)
    have B2 := Lib.hid (B1.out.trans (b2.mono B1.out.size))
    clear b2 c1
    obtain ⟨_, _, c2⟩ := H2.out.cells
    cases fb : fin32 b with
    | false => go_wp2; go_ret; exact ⟨by simp [fa, fb], B2.out⟩
    | true =>
      go_wp2_with fail
      refine (l01Fine_any c _).mono ?_
      rintro e w3 ⟨rfl, b3⟩
      have B3 := Lib.hid (B2.out.trans (b3.mono B2.out.size))
      clear b3
      go_wp2
      go_ret
      exact ⟨by simp [fa, fb], B3.out⟩

/-! Operations that may hand back a NaN: its bits are drawn. -/
def opV (o : BinOp) (w : World) (a b : Nat) : Nat := match floatBits o .f32 a b with | some r => r | none => (Question.nanBits .f32 a b).cut (w.tape w.drawn (.nanBits .f32 a b))
def opW (o : BinOp) (w : World) (a b : Nat) : World := match floatBits o .f32 a b with | some _ => w | none => w.drew
section
variable {P : Program} (o : BinOp) (w : World) (a b : Nat)
theorem run_op (t : TypeId) (ho : o = .add ∨ o = .sub ∨ o = .mul) : (binOp o t (.float .f32 a) (.float .f32 b)).run P w = .ok (.float .f32 (opV o w a b)) (opW o w a b) := by
  unfold opV opW
  cases h : floatBits o .f32 a b with
  | some r => exact run_float_arith w o t .f32 a b r h
  | none =>
    unfold floatBits at h
    rcases ho with rfl | rfl | rfl <;> simp only at h <;> simp [binOp, Op.floatArith, h, Question.forced]
@[go_sem] theorem opW_cell (p : Addr) : (opW o w a b).cell? p = w.cell? p := by unfold opW; split <;> rfl
@[go_sem] theorem opW_heap : (opW o w a b).heap = w.heap := by unfold opW; split <;> rfl
@[go_sem] theorem opW_frozen (p : Addr) : (opW o w a b).frozen? p = w.frozen? p := by unfold opW; split <;> rfl
theorem opW_below (B : Nat) {w0 : World} (h : Below B w0 w) : Below B w0 (opW o w a b) := by
  unfold opW
  split
  · exact h
  · exact h.drew
theorem opV_good (ho : ring o = true) {a b : Nat} (ha : fin32 a = true) (hb : fin32 b = true) : opV o w a b = op32 o a b := by
  unfold opV
  rw [(op_fin ho ha hb).1]
theorem opV_bad (ho : o = .add ∨ o = .sub) {a b : Nat} (h : fin32 a = false ∨ fin32 b = false) : fin32 (opV o w a b) = false := by
  unfold opV
  split
  · rename_i r hr; exact add_lost ho h hr
  · exact not_fin_nan (nan32 _)
end
theorem l09Inner_any (a b c a' b' c' : Nat) (w : World) (h : finV a b c = true) (h' : finV a' b' c' = true) : Calls Try.prog 68 #[vec a b c, vec a' b' c'] w fun e w' => ∃ r, e = .returned (.float .f32 r) ∧ Below w.heap.size w w' ∧
    ∃ w1 w2, r = opV .add w2 (opV .add w1 (op32 .mul a a') (op32 .mul b b')) (op32 .mul c c') := by
  have e0 : finV a b c = (fin32 a && (fin32 b && fin32 c)) := by simp [finV]
  have e1 : finV a' b' c' = (fin32 a' && (fin32 b' && fin32 c')) := by simp [finV]
  rw [e0] at h
  rw [e1] at h'
  simp only [Bool.and_eq_true] at h h'
  have m0 : ∀ t w, (binOp .mul t (.float .f32 a) (.float .f32 a')).run Try.prog w = .ok (.float .f32 (op32 .mul a a')) w := fun t w => run_float_arith w .mul t .f32 a a' _ (op_fin rfl h.1 h'.1).1
  have m1 : ∀ t w, (binOp .mul t (.float .f32 b) (.float .f32 b')).run Try.prog w = .ok (.float .f32 (op32 .mul b b')) w := fun t w => run_float_arith w .mul t .f32 b b' _ (op_fin rfl h.2.1 h'.2.1).1
  have m2 : ∀ t w, (binOp .mul t (.float .f32 c) (.float .f32 c')).run Try.prog w = .ok (.float .f32 (op32 .mul c c')) w := fun t w => run_float_arith w .mul t .f32 c c' _ (op_fin rfl h.2.2 h'.2.2).1
  have ad : ∀ t w x y, (binOp .add t (.float .f32 x) (.float .f32 y)).run Try.prog w = .ok (.float .f32 (opV .add w x y)) (opW .add w x y) := fun t w x y => run_op .add w x y t (.inl rfl)
  generalize op32 .mul a a' = p0 at *
  generalize op32 .mul b b' = p1 at *
  generalize op32 .mul c c' = p2 at *
  unfold vec
  go_enter Try.func68, Try.ntmps68
  go_wp2_with (simp only [m0, m1, m2, ad])
  go_ret
  exact ⟨_, rfl, opW_below _ _ _ _ _ (opW_below _ _ _ _ _ (((Below.refl _ _).alloc (Nat.le_refl _) _).alloc (by simp) _)), _, _, rfl⟩
end Go.Proofs.Ytkfahacnanlnfaa
namespace Go.Proofs.Ytkfahacnanlnfaa
open Go.RowKit Ieee

/-! What the inner product is. -/
def in1 (a b a' b' : Nat) : Nat := op32 .add (op32 .mul a a') (op32 .mul b b')
def in2 (a b c a' b' c' : Nat) : Nat := op32 .add (in1 a b a' b') (op32 .mul c c')
def inOk (a b c a' b' c' : Nat) : Bool := fin32 (op32 .mul a a') && fin32 (op32 .mul b b') && fin32 (in1 a b a' b') && fin32 (op32 .mul c c') && fin32 (in2 a b c a' b' c')
def inCode (a b c a' b' c' : Nat) : Int := if finV a b c && finV a' b' c' then (if inOk a b c a' b' c' then 0 else 3) else 1
def inVal (a b c a' b' c' : Nat) : Nat := if finV a b c && finV a' b' c' then (if inOk a b c a' b' c' then cz (in2 a b c a' b' c') else 0) else 0

theorem inner_spec {a b c a' b' c' r : Nat} (h : ∃ w1 w2, r = opV .add w2 (opV .add w1 (op32 .mul a a') (op32 .mul b b')) (op32 .mul c c')) :
    (inOk a b c a' b' c' = true → r = in2 a b c a' b' c' ∧ fin32 r = true) ∧ (inOk a b c a' b' c' = false → fin32 r = false) := by
  obtain ⟨w1, w2, rfl⟩ := h
  unfold inOk in2 in1
  cases f0 : fin32 (op32 .mul a a') with
  | false => exact ⟨nofun, fun _ => opV_bad _ _ (.inl rfl) (.inl (opV_bad _ _ (.inl rfl) (.inl f0)))⟩
  | true =>
  cases f1 : fin32 (op32 .mul b b') with
  | false => exact ⟨nofun, fun _ => opV_bad _ _ (.inl rfl) (.inl (opV_bad _ _ (.inl rfl) (.inr f1)))⟩
  | true =>
  rw [opV_good .add w1 rfl f0 f1]
  cases f2 : fin32 (op32 .add (op32 .mul a a') (op32 .mul b b')) with
  | false => exact ⟨nofun, fun _ => opV_bad _ _ (.inl rfl) (.inl f2)⟩
  | true =>
  cases f3 : fin32 (op32 .mul c c') with
  | false => exact ⟨nofun, fun _ => opV_bad _ _ (.inl rfl) (.inr f3)⟩
  | true =>
  rw [opV_good .add w2 rfl f2 f3]
  cases f4 : fin32 (op32 .add (op32 .add (op32 .mul a a') (op32 .mul b b')) (op32 .mul c c')) with
  | false => exact ⟨nofun, fun _ => rfl⟩
  | true => exact ⟨fun _ => ⟨rfl, rfl⟩, nofun⟩

theorem boxes (w : World) (a b c a' b' c' : Nat) : Box3 ((w.alloc (.cells #[.float .f32 a, .float .f32 b, .float .f32 c] 26)).alloc (.cells #[.float .f32 a', .float .f32 b', .float .f32 c'] 26)) w.heap.size a b c ∧
    Box3 ((w.alloc (.cells #[.float .f32 a, .float .f32 b, .float .f32 c] 26)).alloc (.cells #[.float .f32 a', .float .f32 b', .float .f32 c'] 26)) (w.heap.size + 1) a' b' c' ∧
    Below w.heap.size w ((w.alloc (.cells #[.float .f32 a, .float .f32 b, .float .f32 c] 26)).alloc (.cells #[.float .f32 a', .float .f32 b', .float .f32 c'] 26)) := by
  have h := box3_new (w.alloc (.cells #[.float .f32 a, .float .f32 b, .float .f32 c] 26)) a' b' c'
  rw [show (w.alloc (.cells #[.float .f32 a, .float .f32 b, .float .f32 c] 26)).heap.size = w.heap.size + 1 by simp] at h
  refine ⟨?_, h, ((Below.refl _ _).alloc (Nat.le_refl _) _).alloc (by simp) _⟩
  exact (box3_new w a b c).alloc _

theorem specInner1_no (a b c a' b' c' : Nat) (w : World) (h : (finV a b c && finV a' b' c') = false) : Calls Try.prog 33 #[vec a b c, vec a' b' c'] w fun e w' =>
    e = .returned (.tuple #[.float .f32 0, .int .i64 1]) ∧ Below w.heap.size w w' := by
  obtain ⟨X, Y, b0⟩ := boxes w a b c a' b' c'
  cases f0 : finV a b c with
  | false =>
    unfold vec
    go_enter Try.func33, Try.ntmps33
    go_wp2_with fail
    refine (l09Is_any a b c _).mono ?_
    rintro e w1 ⟨rfl, b1⟩
    rw [f0]
    have B1 := Lib.hid (b0.trans (b1.mono b0.size))
    clear b1 b0 X Y
    go_wp2
    go_ret2
    exact ⟨rfl, B1.out⟩
  | true =>
    rw [f0] at h
    have f1 : finV a' b' c' = false := by simpa using h
    clear h
    unfold vec
    go_enter Try.func33, Try.ntmps33
    go_wp2_with fail
    refine (l09Is_any a b c _).mono ?_
    rintro e w1 ⟨rfl, b1⟩
    rw [f0]
    have B1 := Lib.hid (b0.trans (b1.mono b0.size))
    have X1 := Lib.hid (X.below b1 X.lt)
    have Y1 := Lib.hid (Y.below b1 Y.lt)
    clear b1 b0 X Y
    obtain ⟨d0, d1, d2⟩ := Y1.out.cells
    go_wp2_with fail
    refine (l09Is_any a' b' c' _).mono ?_
    rintro e w2 ⟨rfl, b2⟩
    rw [f1]
    have B2 := Lib.hid (B1.out.trans (b2.mono B1.out.size))
    clear b2
    go_wp2
    go_ret2
    exact ⟨rfl, B2.out⟩
theorem specInner1_yes (a b c a' b' c' : Nat) (w : World) (f0 : finV a b c = true) (f1 : finV a' b' c' = true) : Calls Try.prog 33 #[vec a b c, vec a' b' c'] w fun e w' =>
    ∃ r, e = .returned (.tuple #[.float .f32 (if fin32 r then r else 0), .int .i64 (if fin32 r then 0 else 3)]) ∧ Below w.heap.size w w' ∧
    ∃ w1 w2, r = opV .add w2 (opV .add w1 (op32 .mul a a') (op32 .mul b b')) (op32 .mul c c') := by
  obtain ⟨X, Y, b0⟩ := boxes w a b c a' b' c'
  have HF0 := Lib.hid f0
  have HF1 := Lib.hid f1
  unfold vec
  go_enter Try.func33, Try.ntmps33
  go_wp2_with fail
  refine (l09Is_any a b c _).mono ?_
  rintro e w1 ⟨rfl, b1⟩
  rw [f0]
  have B1 := Lib.hid (b0.trans (b1.mono b0.size))
  have X1 := Lib.hid (X.below b1 X.lt)
  have Y1 := Lib.hid (Y.below b1 Y.lt)
  clear b1 b0 X Y
  obtain ⟨d0, d1, d2⟩ := Y1.out.cells
  go_wp2_with fail
  refine (l09Is_any a' b' c' _).mono ?_
  rintro e w2 ⟨rfl, b2⟩
  rw [f1]
  clear f0 f1 d0 d1 d2
  have B2 := Lib.hid (B1.out.trans (b2.mono B1.out.size))
  have X2 := Lib.hid (X1.out.below b2 X1.out.lt)
  have Y2 := Lib.hid (Y1.out.below b2 Y1.out.lt)
  clear b2
  obtain ⟨c0, c1, c2⟩ := X2.out.cells
  obtain ⟨d0, d1, d2⟩ := Y2.out.cells
  go_wp2_with fail
  refine (l09Inner_any a b c a' b' c' _ HF0.out HF1.out).mono ?_
  rintro e w3 ⟨r, rfl, b3, hr⟩
  have B3 := Lib.hid (B2.out.trans (b3.mono B2.out.size))
  have HR := Lib.hid hr
  clear b3 hr c0 c1 c2 d0 d1 d2
  go_wp2_with fail
  refine (l01Number1_any r _).mono ?_
  rintro e w4 ⟨rfl, b4⟩
  have B4 := Lib.hid (B3.out.trans (b4.mono B3.out.size))
  clear b4
  obtain ⟨v1, hv1⟩ : ∃ v, (if fin32 r = true then r else 0) = v := ⟨_, rfl⟩
  obtain ⟨v2, hv2⟩ : ∃ v, (if fin32 r = true then (0 : Int) else 3) = v := ⟨_, rfl⟩
  rw [hv1, hv2]
  have V1 := Lib.hid hv1; clear hv1
  have V2 := Lib.hid hv2; clear hv2
  go_wp2
  go_ret2
  exact ⟨r, by rw [V1.out, V2.out]; rfl, B4.out, HR.out⟩

/-- The call hands back the float v with the code k. -/
def Tells (v : Nat) (k : Int) (w : World) (e : Ending) (w' : World) : Prop := e = .returned (.tuple #[.float .f32 v, .int .i64 k]) ∧ Below w.heap.size w w'
theorem cz_zero : cz 0 = 0 := by decide +kernel
theorem specInner_any (a b c a' b' c' : Nat) (w : World) : Calls Try.prog 9 #[vec a b c, vec a' b' c'] w (Tells (inVal a b c a' b' c') (inCode a b c a' b' c') w) := by
  obtain ⟨X, Y, b0⟩ := boxes w a b c a' b' c'
  cases f : (finV a b c && finV a' b' c') with
  | false =>
    have e1 : inVal a b c a' b' c' = 0 := by unfold inVal; rw [f]; rfl
    have e2 : inCode a b c a' b' c' = 1 := by unfold inCode; rw [f]; rfl
    rw [e1, e2]
    clear e1 e2
    unfold vec
    go_enter Try.func9, Try.ntmps9
    go_wp2_with fail
    refine (specInner1_no a b c a' b' c' _ f).mono ?_
    rintro e w1 ⟨rfl, b1⟩
    have B1 := Lib.hid (b0.trans (b1.mono b0.size))
    clear b1 b0 X Y
    go_wp2_with (go_at_call 34; refine (l00Float_any 0 _).mono ?_; rintro e w' ⟨rfl, rfl⟩; rw [cz_zero])
    go_ret2
    exact ⟨rfl, B1.out⟩
  | true =>
    have f0 : finV a b c = true := by revert f; cases finV a b c <;> simp
    have f1 : finV a' b' c' = true := by revert f; cases finV a' b' c' <;> simp
    obtain ⟨v, hv⟩ : ∃ v, inVal a b c a' b' c' = v := ⟨_, rfl⟩
    obtain ⟨k, hk⟩ : ∃ v, inCode a b c a' b' c' = v := ⟨_, rfl⟩
    rw [hv, hk]
    have HV := Lib.hid hv; clear hv
    have HK := Lib.hid hk; clear hk
    have HF := Lib.hid f; clear f
    unfold vec
    go_enter Try.func9, Try.ntmps9
    go_wp2_with fail
    refine (specInner1_yes a b c a' b' c' _ f0 f1).mono ?_
    rintro e w1 ⟨r, rfl, b1, hr⟩
    have B1 := Lib.hid (b0.trans (b1.mono b0.size))
    clear b1 b0 X Y
    obtain ⟨g1, g2⟩ := inner_spec hr
    clear hr
    have hgo : cz (if fin32 r = true then r else 0) = v ∧ (if fin32 r = true then (0 : Int) else 3) = k := by
      rw [← HV.out, ← HK.out]
      unfold inVal inCode
      rw [HF.out]
      cases ho : inOk a b c a' b' c' with
      | true =>
        obtain ⟨q1, q2⟩ := g1 ho
        rw [q2, if_pos rfl, if_pos rfl, q1]
        exact ⟨rfl, rfl⟩
      | false =>
        rw [g2 ho]
        exact ⟨cz_zero, rfl⟩
    obtain ⟨h1, h2⟩ := hgo
    rw [h2]
    obtain ⟨y, hy⟩ : ∃ y, (if fin32 r = true then r else 0) = y := ⟨_, rfl⟩
    rw [hy] at h1 ⊢
    clear g1 g2 hy h2
    have H1 := Lib.hid h1; clear h1
    go_wp2_with (go_at_call 34; refine (l00Float_any y _).mono ?_; rintro e w' ⟨rfl, rfl⟩; rw [H1.out])
    go_ret2
    exact ⟨rfl, B1.out⟩
end Go.Proofs.Ytkfahacnanlnfaa
