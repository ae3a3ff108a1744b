/- Rows of ints in memory; the functions that compare, mark and hold them. -/
import Derived.Test.YtphcipcdddfdeaaE
namespace Go.Proofs.Ytphcipcdddfdeaa
open Go.RowKit

/-- Block G is a row of the ints xs. -/
def IRow (w : World) (G : Nat) (xs : List Int) : Prop := w.heap[G]? = some (.cells (xs.map (Value.int .i64)).toArray 2 (0, 0))
section
variable {w w' : World} {G : Nat} {xs : List Int}
theorem IRow.lt (h : IRow w G xs) : G < w.heap.size := (Array.getElem?_eq_some_iff.1 h).1
theorem IRow.cell (h : IRow w G xs) {k : Nat} {x : Int} (hk : xs[k]? = some x) : w.cell? ⟨G, k, none⟩ = some (.int .i64 x) := by
  unfold IRow at h
  simp [World.cell?, h, hk]
theorem IRow.frozen (h : IRow w G xs) (i : Nat) : w.frozen? ⟨G, i, none⟩ = false := by
  unfold IRow at h
  simp [World.frozen?, h]
theorem IRow.keep (h : IRow w G xs) (hb : w'.heap[G]? = w.heap[G]?) : IRow w' G xs := hb.trans h
theorem IRow.below {B : Nat} (h : IRow w G xs) (hb : Below B w w') (hG : G < B) : IRow w' G xs := h.keep (hb.block G hG)
theorem IRow.set (h : IRow w G xs) {k : Nat} (_ : k < xs.length) (x : Int) : IRow (w.setCell ⟨G, k, none⟩ (.int .i64 x)) G (xs.set k x) := by
  unfold IRow at h ⊢
  simp [World.setCell, Array.getElem?_modify, h, List.map_set]
end

/-- v is a slice of the ints xs, its block is one of those from base on. -/
def IOwn (w : World) (base : Nat) (v : Value) (xs : List Int) : Prop :=
  (v = .slice none 0 0 ∧ xs = []) ∨ ∃ G, v = .slice (some ⟨G, 0, none⟩) xs.length xs.length ∧ base ≤ G ∧ IRow w G xs
def IRd (w : World) (A : Option Addr) (xs : List Int) : Prop :=
  ∀ k x, xs[k]? = some x → ∃ b, A = some ⟨b, 0, none⟩ ∧ b < w.heap.size ∧ w.cell? ⟨b, k, none⟩ = some (.int .i64 x)
section
variable {w w' : World} {base B : Nat} {v : Value} {xs : List Int}
theorem IOwn.below (h : IOwn w base v xs) (hb : Below w.heap.size w w') : IOwn w' base v xs := by
  rcases h with h | ⟨G, e, hG, hr⟩
  · exact .inl h
  · exact .inr ⟨G, e, hG, hr.below hb hr.lt⟩
theorem IOwn.rd (h : IOwn w base v xs) : ∃ A, v = .slice A xs.length xs.length ∧ IRd w A xs := by
  rcases h with ⟨rfl, rfl⟩ | ⟨G, rfl, hG, hr⟩
  · exact ⟨none, rfl, fun k p h => by simp at h⟩
  · exact ⟨_, rfl, fun k p hk => ⟨G, rfl, hr.lt, by simpa using hr.cell hk⟩⟩
theorem IOwn.grown {row : Option Nat} (h : IOwn w base v xs) (hg : w.grownBy w' row) (hr : ∀ g, row = some g → v.ownBlock ≠ some g) : IOwn w' base v xs := by
  rcases h with h | ⟨G, rfl, hG, hw⟩
  · exact .inl h
  · exact .inr ⟨G, rfl, hG, hw.keep (hg.block G hw.lt (fun e => hr G e.symm rfl))⟩
theorem IOwn.base_ {g : Nat} (h : IOwn w base v xs) (e : v.ownBlock = some g) : base ≤ g ∧ g < w.heap.size := by
  rcases h with ⟨rfl, rfl⟩ | ⟨G, rfl, hG, hw⟩
  · cases e
  · obtain rfl : G = g := by injection e
    exact ⟨hG, hw.lt⟩
theorem IRd.below {A : Option Addr} (h : IRd w A xs) (hb : Below w.heap.size w w') : IRd w' A xs := by
  intro k p hk
  obtain ⟨b, e, hlt, h0⟩ := h k p hk
  exact ⟨b, e, Nat.lt_of_lt_of_le hlt hb.size, (hb.cell (p := ⟨b, _, none⟩) hlt).trans h0⟩
end

theorem eqInt64S_any (A A' : Option Addr) (c c' n : Nat) (xs : List Int) (w : World) (hl : xs.length = n) (hn : n ≤ 1048576) (hr : IRd w A xs) (hr' : IRd w A' xs) :
    Calls Try.prog 19 #[.slice A n c, .slice A' n c'] w fun e w' => e = .returned (.bool true) ∧ Below w.heap.size w w' := by
  have HR := Lib.hid hr; clear hr
  have HR' := Lib.hid hr'; clear hr'
  go_enter Try.func19, Try.ntmps19
  go_wp2
  go_loopw [5] (fun i wr => ∃ k : Nat, k ≤ n ∧ i = .int .i64 k ∧ Below w.heap.size w wr) (fun i _ => n - (intOf i).toNat)
  case atStart => exact ⟨0, Nat.zero_le _, rfl, Below.refl _ _⟩
  case round =>
    obtain ⟨k, hk, rfl, hbw⟩ := hrel
    by_cases hlt : k < n
    · obtain ⟨x, hx⟩ : ∃ x, xs[k]? = some x := ⟨_, List.getElem?_eq_getElem (by omega)⟩
      obtain ⟨b, rfl, hbl, h0⟩ := HR.out.below hbw k x hx
      obtain ⟨b', rfl, hbl', h0'⟩ := HR'.out.below hbw k x hx
      go_wp2
      go_still_tail 8, (by kernel_rfl)
      go_wp2
      exact ⟨⟨k + 1, by omega, by go_num, hbw.drew⟩, by simp [intOf]; omega⟩
    · obtain rfl : k = n := by omega
      go_wp2
      go_ret
      exact ⟨rfl, hbw⟩

def markI (k0 : Int) (n : Nat) : List Int := (List.range n).map fun (j : Nat) => k0 + (j : Int)
theorem markI_length (k0 : Int) (n : Nat) : (markI k0 n).length = n := by simp [markI]
theorem markI_succ (k0 : Int) (n : Nat) : markI k0 (n + 1) = markI k0 n ++ [k0 + (n : Int)] := by simp [markI, List.range_succ]
theorem markI_get (k0 : Int) (n k : Nat) (h : k < n) : (markI k0 n)[k]? = some (k0 + (k : Int)) := by simp [markI, h]
theorem markIset (k0 : Int) (xs : List Int) (k : Nat) (hk : k < xs.length) :
    (markI k0 k ++ xs.drop k).set k (k0 + (k : Int)) = markI k0 (k + 1) ++ xs.drop (k + 1) := by
  rw [List.set_append_right _ _ (by simp [markI_length]), markI_length, Nat.sub_self, List.drop_eq_getElem_cons hk, markI_succ, List.append_assoc]
  rfl
theorem markIget (k0 : Int) (xs : List Int) (k : Nat) (hk : k < xs.length) : (markI k0 k ++ xs.drop k)[k]? = some xs[k] := by
  rw [List.getElem?_append_right (by simp [markI_length]), markI_length, Nat.sub_self, List.drop_eq_getElem_cons hk]
  rfl

theorem markIRow_any (G cap : Nat) (k0 : Int) (xs : List Int) (w : World) (hn : xs.length ≤ 1048576) (h0 : 0 ≤ k0) (h1 : k0 ≤ 10000000) (hr : IRow w G xs) :
    Calls Try.prog 20 #[.slice (some ⟨G, 0, none⟩) xs.length cap, .int .i64 k0] w fun e w' => e = .returned (.int .i64 (k0 + xs.length)) ∧ IRow w' G (markI k0 xs.length) ∧ w.grownBy w' (some G) := by
  have HR := Lib.hid hr; clear hr
  go_enter Try.func20, Try.ntmps20
  go_wp2
  go_loopw [1, 5] (fun t i wr => ∃ k : Nat, k ≤ xs.length ∧ i = .int .i64 k ∧ t = .int .i64 (k0 + k) ∧ IRow wr G (markI k0 k ++ xs.drop k) ∧ w.grownBy wr (some G)) (fun _ i _ => xs.length - (intOf i).toNat)
  case atStart => exact ⟨0, Nat.zero_le _, rfl, by simp, by simpa [markI] using HR.out, World.grownBy.refl _ _⟩
  case round =>
    obtain ⟨k, hk, rfl, rfl, hrow, hg⟩ := hrel
    by_cases hlt : k < xs.length
    · have c0 := hrow.cell (markIget k0 xs k hlt)
      have f0 := hrow.frozen k
      have HRow := Lib.hid hrow; clear hrow
      go_wp2
      refine ⟨⟨k + 1, by omega, by go_num, by rw [show k0 + (k : Int) + 1 = k0 + ((k + 1 : Nat) : Int) by omega], ?_, ?_⟩, by simp [intOf]; omega⟩
      · rw [← markIset k0 xs k hlt]
        exact HRow.out.set (by simp [markI_length]; omega) _
      · exact grownBy_setCell hg _ _
    · obtain rfl : k = xs.length := by omega
      have HRow := Lib.hid hrow; clear hrow
      go_wp2
      go_ret
      exact ⟨rfl, by simpa using HRow.out, hg⟩

theorem markI_any (base : Nat) (v : Value) (k0 : Int) (xs : List Int) (w : World) (hn : xs.length ≤ 1048576) (h0 : 0 ≤ k0) (h1 : k0 ≤ 10000000) (hv : IOwn w base v xs) :
    Calls Try.prog 20 #[v, .int .i64 k0] w fun e w' => e = .returned (.int .i64 (k0 + xs.length)) ∧ IOwn w' base v (markI k0 xs.length) ∧ w.grownBy w' v.ownBlock := by
  rcases hv with ⟨rfl, rfl⟩ | ⟨G, rfl, hG, hr⟩
  · go_enter Try.func20, Try.ntmps20
    go_wp2
    refine wp_loop_once ?_
    go_wp2
    go_ret
    exact ⟨by simp, .inl ⟨rfl, rfl⟩, World.grownBy.refl _ _⟩
  · refine (markIRow_any G xs.length k0 xs w hn h0 h1 hr).mono fun e w' ⟨he, hr', hg⟩ => ⟨he, .inr ⟨G, by rw [markI_length], hG, hr'⟩, hg⟩

theorem heldI_any (A : Option Addr) (cap n : Nat) (k0 : Int) (w : World) (hn : n ≤ 1048576) (h0 : 0 ≤ k0) (h1 : k0 ≤ 10000000) (hr : IRd w A (markI k0 n)) :
    Calls Try.prog 21 #[.slice A n cap, .int .i64 k0] w fun e w' => e = .returned (.int .i64 (k0 + n)) ∧ w = w' := by
  have HR := Lib.hid hr; clear hr
  go_enter Try.func21, Try.ntmps21
  go_wp2
  go_loop [1, 5] (fun t i => ∃ k : Nat, k ≤ n ∧ i = .int .i64 k ∧ t = .int .i64 (k0 + k)) (fun _ i => n - (intOf i).toNat)
  case atStart => exact ⟨0, Nat.zero_le _, rfl, by simp⟩
  case round =>
    obtain ⟨k, hk, rfl, rfl⟩ := hrel
    by_cases hlt : k < n
    · obtain ⟨b, rfl, hbl, c0⟩ := HR.out k _ (markI_get k0 n k hlt)
      go_wp2
      exact ⟨⟨k + 1, by omega, by go_num, by rw [show k0 + (k : Int) + 1 = k0 + ((k + 1 : Nat) : Int) by omega]⟩, by simp [intOf]; omega⟩
    · obtain rfl : k = n := by omega
      go_wp2
      go_ret
      exact ⟨rfl, rfl⟩
end Go.Proofs.Ytphcipcdddfdeaa
