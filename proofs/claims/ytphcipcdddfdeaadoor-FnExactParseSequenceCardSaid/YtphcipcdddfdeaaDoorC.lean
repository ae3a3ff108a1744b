/- Walks of the functions that make, mark and hold pulses. -/
import Derived.Test.YtphcipcdddfdeaaDoorB
namespace Go.Proofs.YtphcipcdddfdeaaDoor
open Go.RowKit

theorem run_make_rowN {P : Program} (t e : TypeId) (i : TypeInfo) (z : Value) (ht : P.underlying t = some (.slice e)) (hi : P.info? e = some i) (hz : i.zero = some z)
    (kl kc : IntKind) (n c : Nat) (hnc : n ≤ c) (hbytes : i.bytes * c ≤ 281474976710656) (h63 : c ≤ 9223372036854775807) (w : World) :
    (Instr.makeSlice t (.int kl (n : Int)) (.int kc (c : Int))).run P w = .ok (.slice (some ⟨w.heap.size, 0, none⟩) n c) (w.alloc (.cells (madeCells z.cells (c * i.size)) e)) := by
  have hb : (i.bytes : Int) * (c : Int) ≤ 281474976710656 := by
    have h : ((i.bytes * c : Nat) : Int) ≤ 281474976710656 := by omega
    rwa [Int.natCast_mul] at h
  have hr := run_make (P := P) w t e i z ht hi hz kl kc n c (by omega) (by omega) hb (by omega)
  simp only [Int.toNat_natCast] at hr
  exact hr

theorem info37 : (Tryd.prog.info? 37).map (fun i => (i.zero, i.size, i.bytes)) = some (some (.agg #[.int .i64 0, .int .i64 0, .bool false]), 3, 24) := by kernel_rfl

def Pu.zero : Pu := ⟨0, 0, false⟩
theorem flat_zeros (n : Nat) : madeCells #[.int .i64 0, .int .i64 0, .bool false] (n * 3) = (flat (List.replicate n Pu.zero)).toArray := by
  apply Array.ext'
  refine List.ext_getElem? fun j => ?_
  by_cases hj : j < n * 3
  · have hk : j / 3 < n := by omega
    have hr : (List.replicate n Pu.zero)[j / 3]? = some Pu.zero := by simp [hk]
    obtain ⟨h0, h1, h2⟩ := flat_get _ _ _ hr
    have hc : (madeCells #[.int .i64 0, .int .i64 0, .bool false] (n * 3)).toList[j]? = some (#[Value.int .i64 0, .int .i64 0, .bool false][j % 3]!) := by
      simp [madeCells, hj]
    rw [hc]
    rcases (by omega : j % 3 = 0 ∨ j % 3 = 1 ∨ j % 3 = 2) with h | h | h
    · have e : j = j / 3 * 3 := by omega
      rw [h]; rw [← e] at h0; exact h0.symm
    · have e : j = j / 3 * 3 + 1 := by omega
      rw [h]; rw [← e] at h1; exact h1.symm
    · have e : j = j / 3 * 3 + 2 := by omega
      rw [h]; rw [← e] at h2; exact h2.symm
  · rw [List.getElem?_eq_none (by simp [madeCells]; omega), List.getElem?_eq_none (by simp [flat_length]; omega)]

theorem make_pulses (n : Nat) (hn : n ≤ 1048576) (w : World) : (Instr.makeSlice 26 (.int .i64 (n : Int)) (.int .i64 (n : Int))).run Tryd.prog w = .ok (.slice (some ⟨w.heap.size, 0, none⟩) n n) (w.alloc (.cells (flat (List.replicate n Pu.zero)).toArray 37)) := by
  obtain ⟨i0, hi, hz0, hz1, hz2⟩ := info_parts info37
  have h := run_make_rowN (P := Tryd.prog) 26 37 i0 _ Tryd.underlying26 hi hz0 .i64 .i64 n n (Nat.le_refl _) (by rw [hz2]; omega) (by omega) w
  rw [hz1] at h
  rw [h]
  show Result.ok _ (w.alloc (.cells (madeCells #[.int .i64 0, .int .i64 0, .bool false] (n * 3)) 37)) = _
  rw [flat_zeros]

/-- The call hands back a new slice of the pulses ys. -/
def Made (ys : List Pu) (w : World) (e : Ending) (w' : World) : Prop := ∃ v, e = .returned v ∧ Own w' w.heap.size v ys ∧ Below w.heap.size w w'

theorem setk (xs : List Pu) (k : Nat) (p : Pu) (hk : k < xs.length) (hp : xs[k]? = some p) :
    (xs.take k ++ List.replicate (xs.length - k) Pu.zero).set k p = xs.take (k + 1) ++ List.replicate (xs.length - (k + 1)) Pu.zero := by
  have hp' : xs[k] = p := by rw [List.getElem?_eq_getElem hk] at hp; simpa using hp
  have e : xs.length - k = (xs.length - (k + 1)) + 1 := by omega
  rw [List.set_append_right _ _ (by simp; omega), e, List.take_succ_eq_append_getElem hk, hp']
  have e2 : k - (xs.take k).length = 0 := by simp; omega
  rw [e2, List.replicate_succ, List.append_assoc]
  rfl
theorem getk (xs : List Pu) (k : Nat) (hk : k < xs.length) : (xs.take k ++ List.replicate (xs.length - k) Pu.zero)[k]? = some Pu.zero := by
  rw [List.getElem?_append_right (by simp; omega)]
  have e2 : k - (xs.take k).length = 0 := by simp; omega
  have e : xs.length - k = (xs.length - (k + 1)) + 1 := by omega
  rw [e2, e]
  rfl
theorem toPulse_agg (a h : Int) (b : Bool) (w : World) : Calls Tryd.prog 16 #[.agg #[.int .i64 a, .int .i64 h, .bool b]] w fun e w' => e = .returned (.agg #[.int .i64 a, .int .i64 h, .bool b]) ∧ Below w.heap.size w w' := toPulse_any ⟨a, h, b⟩ w

set_option maxHeartbeats 400000 in
theorem toPulseS_any (A : Option Addr) (c : Nat) (xs : List Pu) (w : World) (hn : xs.length ≤ 1048576) (hr : Rd w A xs) :
    Calls Tryd.prog 7 #[.slice A xs.length c] w (Made xs w) := by
  have hmk := make_pulses xs.length hn
  have HR := Lib.hid hr; clear hr
  go_enter Tryd.func7, Tryd.ntmps7
  go_wp2
  go_loopw [4] (fun i wr => ∃ k : Nat, k ≤ xs.length ∧ i = .int .i64 k ∧ Row wr w.heap.size (xs.take k ++ List.replicate (xs.length - k) Pu.zero) [] ∧ Below w.heap.size w wr) (fun i _ => xs.length - (intOf i).toNat)
  case atStart => exact ⟨0, Nat.zero_le _, rfl, by simp only [List.take_zero, List.nil_append, Nat.sub_zero]; unfold Row; rw [List.append_nil]; exact heap_alloc_new w _, (Below.refl _ _).alloc (Nat.le_refl _) _⟩
  case round =>
    obtain ⟨k, hk, rfl, hrow, hbw⟩ := hrel
    clear hmk
    by_cases hlt : k < xs.length
    · obtain ⟨p, hp⟩ : ∃ p, xs[k]? = some p := ⟨_, List.getElem?_eq_getElem hlt⟩
      obtain ⟨b, off, rfl, hbl, h0, h1, h2⟩ := (HR.out.below hbw) k p hp
      obtain ⟨pa, ph, pb⟩ := p
      have HP := Lib.hid hp; clear hp
      have HW := Lib.hid hrow; clear hrow
      have hlw : w.heap.size < wr.heap.size := HW.out.lt
      go_wp2_with fail
      refine (toPulse_agg pa ph pb _).mono ?_
      rintro e w' ⟨rfl, hb⟩
      have hrow := HW.out.below hb hlw
      obtain ⟨c0, c1, c2⟩ := hrow.cells (getk xs k hlt)
      have f0 := hrow.frozen (k * 3)
      have f1 := hrow.frozen (k * 3 + 1)
      have f2 := hrow.frozen (k * 3 + 2)
      have HRow := Lib.hid hrow; clear hrow
      go_wp2
      refine ⟨⟨k + 1, by omega, by go_num, ?_, ?_⟩, by simp [intOf]; omega⟩
      · rw [← setk xs k ⟨pa, ph, pb⟩ hlt HP.out]
        exact HRow.out.put (p := ⟨pa, ph, pb⟩) (by simp; omega)
      · exact (((hbw.trans (hb.mono (Nat.le_of_lt hlw))).setCell (Nat.le_refl _) _).setCell (Nat.le_refl _) _).setCell (Nat.le_refl _) _
    · obtain rfl : k = xs.length := by omega
      have HW := Lib.hid hrow; clear hrow
      go_wp2
      go_ret
      refine ⟨_, rfl, .inr ⟨w.heap.size, xs.length, [], rfl, Nat.le_refl _, ?_, Nat.le_refl _, by unfold maxLen; omega, by simp⟩, hbw⟩
      have := HW.out
      simpa using this

/-- What marking leaves in a place, and in n places from k0 on. -/
def mkP (t : Int) : Pu := ⟨t, t + 1, (t + 1 + 1) % 3 == 0⟩
def markL (k0 : Int) (n : Nat) : List Pu := (List.range n).map fun (j : Nat) => mkP (k0 + 3 * (j : Int))
theorem markL_length (k0 : Int) (n : Nat) : (markL k0 n).length = n := by simp [markL]
theorem markL_succ (k0 : Int) (n : Nat) : markL k0 (n + 1) = markL k0 n ++ [mkP (k0 + 3 * (n : Int))] := by simp [markL, List.range_succ]
theorem markL_get (k0 : Int) (n k : Nat) (h : k < n) : (markL k0 n)[k]? = some (mkP (k0 + 3 * (k : Int))) := by simp [markL, h]
theorem markset (k0 : Int) (xs : List Pu) (k : Nat) (hk : k < xs.length) :
    (markL k0 k ++ xs.drop k).set k (mkP (k0 + 3 * (k : Int))) = markL k0 (k + 1) ++ xs.drop (k + 1) := by
  rw [List.set_append_right _ _ (by simp [markL_length]), markL_length, Nat.sub_self, List.drop_eq_getElem_cons hk, markL_succ, List.append_assoc]
  rfl
theorem markget (k0 : Int) (xs : List Pu) (k : Nat) (hk : k < xs.length) : (markL k0 k ++ xs.drop k)[k]? = some xs[k] := by
  rw [List.getElem?_append_right (by simp [markL_length]), markL_length, Nat.sub_self, List.drop_eq_getElem_cons hk]
  rfl
theorem grownBy_setCell {a w : World} {g : Nat} (h : a.grownBy w (some g)) (i : Nat) (u : Value) : a.grownBy (w.setCell ⟨g, i, none⟩ u) (some g) :=
  ⟨h.os, h.tape, h.output, by simpa [World.setCell] using h.size, fun k hk hne => (Below.heap_setCell w ⟨g, i, none⟩ u k (by
    rintro rfl
    exact hne rfl)).trans (h.block k hk hne)⟩

set_option maxHeartbeats 400000 in
theorem markRow_any (G cap : Nat) (k0 : Int) (xs : List Pu) (more : List Value) (w : World) (hn : xs.length ≤ 1048576) (h0 : 0 ≤ k0) (h1 : k0 ≤ 10000000) (hr : Row w G xs more) :
    Calls Tryd.prog 12 #[.slice (some ⟨G, 0, none⟩) xs.length cap, .int .i64 k0] w fun e w' => e = .returned (.int .i64 (k0 + 3 * xs.length)) ∧ Row w' G (markL k0 xs.length) more ∧ w.grownBy w' (some G) := by
  have HR := Lib.hid hr; clear hr
  go_enter Tryd.func12, Tryd.ntmps12
  go_wp2
  go_loopw [1, 5] (fun t i wr => ∃ k : Nat, k ≤ xs.length ∧ i = .int .i64 k ∧ t = .int .i64 (k0 + 3 * k) ∧ Row wr G (markL k0 k ++ xs.drop k) more ∧ w.grownBy wr (some G)) (fun _ i _ => xs.length - (intOf i).toNat)
  case atStart => exact ⟨0, Nat.zero_le _, rfl, by simp, by simpa [markL] using HR.out, World.grownBy.refl _ _⟩
  case round =>
    obtain ⟨k, hk, rfl, rfl, hrow, hg⟩ := hrel
    by_cases hlt : k < xs.length
    · obtain ⟨c0, c1, c2⟩ := hrow.cells (markget k0 xs k hlt)
      have f0 := hrow.frozen (k * 3)
      have f1 := hrow.frozen (k * 3 + 1)
      have f2 := hrow.frozen (k * 3 + 2)
      have HRow := Lib.hid hrow; clear hrow
      go_wp2
      refine ⟨⟨k + 1, by omega, by go_num, by rw [show k0 + 3 * (k : Int) + 1 + 1 + 1 = k0 + 3 * ((k + 1 : Nat) : Int) by omega], ?_, ?_⟩, by simp [intOf]; omega⟩
      · rw [← markset k0 xs k hlt]
        exact HRow.out.put (p := mkP (k0 + 3 * (k : Int))) (by simp [markL_length]; omega)
      · exact grownBy_setCell (grownBy_setCell (grownBy_setCell hg _ _) _ _) _ _
    · obtain rfl : k = xs.length := by omega
      have HRow := Lib.hid hrow; clear hrow
      go_wp2
      go_ret
      exact ⟨rfl, by simpa using HRow.out, hg⟩

theorem mark_any (base : Nat) (v : Value) (k0 : Int) (xs : List Pu) (w : World) (hn : xs.length ≤ 1048576) (h0 : 0 ≤ k0) (h1 : k0 ≤ 10000000) (hv : Own w base v xs) :
    Calls Tryd.prog 12 #[v, .int .i64 k0] w fun e w' => e = .returned (.int .i64 (k0 + 3 * xs.length)) ∧ Own w' base v (markL k0 xs.length) ∧ w.grownBy w' v.ownBlock := by
  rcases hv with ⟨rfl, rfl⟩ | ⟨G, cap, more, rfl, hG, hr, h2, h3, h4⟩
  · go_enter Tryd.func12, Tryd.ntmps12
    go_wp2
    refine wp_loop_once ?_
    go_wp2
    go_ret
    exact ⟨by simp, .inl ⟨rfl, rfl⟩, World.grownBy.refl _ _⟩
  · refine (markRow_any G cap k0 xs more w hn h0 h1 hr).mono fun e w' ⟨he, hr', hg⟩ => ⟨he, .inr ⟨G, cap, more, by rw [markL_length], hG, hr', by rw [markL_length]; exact h2, h3, by rw [markL_length]; exact h4⟩, hg⟩

set_option maxHeartbeats 400000 in
theorem heldRow_any (A : Option Addr) (cap n : Nat) (k0 : Int) (w : World) (hn : n ≤ 1048576) (h0 : 0 ≤ k0) (h1 : k0 ≤ 10000000) (hr : Rd w A (markL k0 n)) :
    Calls Tryd.prog 13 #[.slice A n cap, .int .i64 k0] w fun e w' => e = .returned (.int .i64 (k0 + 3 * n)) ∧ w = w' := by
  have HR := Lib.hid hr; clear hr
  go_enter Tryd.func13, Tryd.ntmps13
  go_wp2
  go_loop [1, 5] (fun t i => ∃ k : Nat, k ≤ n ∧ i = .int .i64 k ∧ t = .int .i64 (k0 + 3 * k)) (fun _ i => n - (intOf i).toNat)
  case atStart => exact ⟨0, Nat.zero_le _, rfl, by simp⟩
  case round =>
    obtain ⟨k, hk, rfl, rfl⟩ := hrel
    by_cases hlt : k < n
    · obtain ⟨b, off, rfl, hbl, c0, c1, c2⟩ := HR.out k _ (markL_get k0 n k hlt)
      unfold mkP at c0 c1 c2
      dsimp only at c0 c1 c2
      go_wp2
      exact ⟨⟨k + 1, by omega, by go_num, by rw [show k0 + 3 * (k : Int) + 1 + 1 + 1 = k0 + 3 * ((k + 1 : Nat) : Int) by omega]⟩, by simp [intOf]; omega⟩
    · obtain rfl : k = n := by omega
      go_wp2
      go_ret
      exact ⟨rfl, rfl⟩
end Go.Proofs.YtphcipcdddfdeaaDoor
