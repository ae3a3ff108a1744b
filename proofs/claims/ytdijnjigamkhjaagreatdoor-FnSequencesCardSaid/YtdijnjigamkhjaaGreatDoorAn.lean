/- The angles of a sequence, both implementations. -/
import Derived.Test.YtdijnjigamkhjaaGreatDoorIt
namespace Go.Proofs.YtdijnjigamkhjaaGreatDoor
open Go.RowKit

def turnOf (p : Pu) : Int := if p.b then -(2 ^ (24 - p.h).toNat) else 2 ^ (24 - p.h).toNat
def angAdd (t : List Int) (p : Pu) : List Int := t.set p.a.toNat (t[p.a.toNat]! + turnOf p)
def ang (xs : List Pu) : List Int := xs.foldl angAdd [0, 0, 0]
theorem angAdd_length (t : List Int) (p : Pu) : (angAdd t p).length = t.length := by simp [angAdd]
theorem ang_succ (xs : List Pu) (k : Nat) (p : Pu) (h : xs[k]? = some p) : ang (xs.take (k + 1)) = angAdd (ang (xs.take k)) p := by
  unfold ang
  rw [List.take_add_one, h, List.foldl_append]
  rfl
theorem foldl_length (xs : List Pu) : ∀ t, (xs.foldl angAdd t).length = t.length := by
  induction xs with
  | nil => intro t; rfl
  | cons p r ih => intro t; rw [List.foldl_cons, ih, angAdd_length]
theorem ang_length (xs : List Pu) : (ang xs).length = 3 := foldl_length xs _
theorem two_pow_le (e : Nat) (h : e ≤ 24) : (0 : Int) < 2 ^ e ∧ (2 : Int) ^ e ≤ 16777216 :=
  ⟨Int.pow_pos (by decide), by
    have : (2 : Nat) ^ e ≤ 2 ^ 24 := Nat.pow_le_pow_right (by decide) h
    have h2 : ((2 ^ e : Nat) : Int) ≤ ((2 ^ 24 : Nat) : Int) := Int.ofNat_le.2 this
    simpa using h2⟩
theorem turn_le (p : Pu) (h : 0 ≤ p.h) : -16777216 ≤ turnOf p ∧ turnOf p ≤ 16777216 := by
  have := two_pow_le (24 - p.h).toNat (by omega)
  unfold turnOf; split <;> omega
theorem foldl_le (xs : List Pu) : (∀ p ∈ xs, 0 ≤ p.h) → ∀ (t : List Int) (B : Int), 0 ≤ B → (∀ x ∈ t, -B ≤ x ∧ x ≤ B) →
    ∀ x ∈ xs.foldl angAdd t, -(B + 16777216 * xs.length) ≤ x ∧ x ≤ B + 16777216 * xs.length := by
  induction xs with
  | nil => intro _ t B _ ht x hx; simpa using ht x hx
  | cons p r ih =>
    intro hp t B hB ht x hx
    rw [List.foldl_cons] at hx
    have h1 := turn_le p (hp p (by simp))
    have := ih (fun q hq => hp q (by simp [hq])) (angAdd t p) (B + 16777216) (by omega) (by
      intro y hy
      unfold angAdd at hy
      rcases List.mem_or_eq_of_mem_set hy with hy | rfl
      · have := ht y hy; omega
      · rcases Nat.lt_or_ge p.a.toNat t.length with hl | hl
        · rw [getElem!_pos t _ hl]
          have := ht _ (List.getElem_mem hl); omega
        · rw [getElem!_neg t _ (by omega)]
          show -(B + 16777216) ≤ 0 + turnOf p ∧ 0 + turnOf p ≤ B + 16777216
          omega) x hx
    simp only [List.length_cons]
    omega
theorem ang_le {xs : List Pu} (hs : isSeq xs = true) (k : Nat) : ∀ x ∈ ang (xs.take k), -1006632960 ≤ x ∧ x ≤ 1006632960 := by
  intro x hx
  unfold isSeq at hs
  simp at hs
  have hp : ∀ p ∈ xs.take k, 0 ≤ p.h := by
    intro p hp
    have := hs.2 p (List.mem_of_mem_take hp)
    simp [Pu.ok, inB] at this
    omega
  have h0 := foldl_le (xs.take k) hp [0, 0, 0] 0 (by omega) (by simp) x hx
  have : (xs.take k).length ≤ 60 := by simp; omega
  omega
theorem ok_of {xs : List Pu} (hs : isSeq xs = true) {k : Nat} {p : Pu} (h : xs[k]? = some p) : 0 ≤ p.a ∧ p.a ≤ 2 ∧ 0 ≤ p.h ∧ p.h ≤ 24 := by
  unfold isSeq at hs
  simp at hs
  have := hs.2 p (List.mem_of_getElem? h)
  simp [Pu.ok, inB] at this
  omega

def angRes (xs : List Pu) : List Int := if isSeq xs then ang xs else []
def angCode (xs : List Pu) : Int := if isSeq xs then 0 else 1
theorem angRes_length (xs : List Pu) : (angRes xs).length ≤ 3 := by
  unfold angRes; split
  · rw [ang_length]; omega
  · simp
/-- The call hands back a new slice of the ints ys, and a code. -/
def MadeI2 (ys : List Int) (code : Int) (w : World) (e : Ending) (w' : World) : Prop := ∃ v, e = .returned (.tuple #[v, .int .i64 code]) ∧ IOwn w' w.heap.size v ys ∧ Below w.heap.size w w'

theorem info2 : (Tryz.prog.info? 2).map (fun i => (i.zero, i.size, i.bytes)) = some (some (.int .i64 0), 1, 8) := by kernel_rfl
theorem make_ints (w : World) : (Instr.makeSlice 33 (.int .i64 3) (.int .i64 3)).run Tryz.prog w = .ok (.slice (some ⟨w.heap.size, 0, none⟩) 3 3) (w.alloc (.cells #[.int .i64 0, .int .i64 0, .int .i64 0] 2)) := by
  obtain ⟨i0, hi, hz0, hz1, hz2⟩ := info_parts info2
  have h := run_make_rowN (P := Tryz.prog) 33 2 i0 _ Tryz.underlying33 hi hz0 .i64 .i64 3 3 (Nat.le_refl _) (by rw [hz2]; omega) (by omega) w
  rw [hz1] at h
  have e : madeCells (Value.int .i64 0).cells (3 * 1) = #[.int .i64 0, .int .i64 0, .int .i64 0] := by
    apply Array.ext'
    simp [madeCells, Value.cells, Nat.mod_one, List.range_succ]
  rw [e] at h
  exact h

theorem implAngles_no (A : Option Addr) (c : Nat) (xs : List Pu) (w : World) (hn : xs.length ≤ 1048576) (hs : isSeq xs = false) (hr : Rd w A xs) :
    Calls Tryz.prog 13 #[.slice A xs.length c] w (MadeI2 [] 1 w) := by
  have HS := Lib.hid hs; clear hs
  have HR := Lib.hid hr; clear hr
  go_enter Tryz.func13, Tryz.ntmps13
  go_wp2_with (go_at_call 8; refine (implIsSequence_any _ _ _ _ hn HR.out).mono ?_; rintro e w1 ⟨rfl, b1⟩; rw [HS.out])
  go_ret2
  exact ⟨_, rfl, .inl ⟨rfl, rfl⟩, b1⟩
theorem specAngles_no (A : Option Addr) (c : Nat) (xs : List Pu) (w : World) (hn : xs.length ≤ 1048576) (hs : isSeq xs = false) (hr : Rd w A xs) :
    Calls Tryz.prog 24 #[.slice A xs.length c] w (MadeI2 [] 1 w) := by
  have HS := Lib.hid hs; clear hs
  have HR := Lib.hid hr; clear hr
  go_enter Tryz.func24, Tryz.ntmps24
  go_wp2_with (go_at_call 31; refine (l05Is_any _ _ _ _ hn HR.out).mono ?_; rintro e w' ⟨rfl, rfl⟩; rw [HS.out])
  go_ret2
  exact ⟨_, rfl, .inl ⟨rfl, rfl⟩, Below.refl _ _⟩

theorem three (t : List Int) (h : t.length = 3) : ∃ a b c, t = [a, b, c] := by
  match t, h with
  | [a, b, c], _ => exact ⟨a, b, c, rfl⟩

theorem wrap_small (P : Int) (h0 : -2147483648 ≤ P) (h1 : P ≤ 2147483647) : IntKind.i64.wrap P = P := by
  simp [IntKind.wrap, IntKind.bits, IntKind.signed]; omega
set_option maxRecDepth 100000 in
theorem specAngles_yes (A : Option Addr) (c : Nat) (xs : List Pu) (w : World) (hs : isSeq xs = true) (hr : Rd w A xs) :
    Calls Tryz.prog 24 #[.slice A xs.length c] w (MadeI2 (ang xs) 0 w) := by
  have hn : xs.length ≤ 60 := by unfold isSeq at hs; simp at hs; exact hs.1
  have HS := Lib.hid hs; clear hs
  have HR := Lib.hid hr; clear hr
  have hmk := make_ints
  go_enter Tryz.func24, Tryz.ntmps24
  go_wp2_with (go_at_call 31; refine (l05Is_any _ _ _ _ (by omega) HR.out).mono ?_; rintro e w' ⟨rfl, rfl⟩; rw [HS.out])
  clear hmk
  go_loopw [5, 6] (fun i _ wr => ∃ k : Nat, k ≤ xs.length ∧ i = .int .i64 k ∧ IRow wr w.heap.size (ang (xs.take k)) ∧ Below w.heap.size w wr) (fun i _ _ => xs.length - (intOf i).toNat)
  case atStart => exact ⟨0, Nat.zero_le _, rfl, heap_alloc_new w _, (Below.refl _ _).alloc (Nat.le_refl _) _⟩
  case round =>
    obtain ⟨k, hk, rfl, hrow, hbw⟩ := hrel
    by_cases hlt : k < xs.length
    · obtain ⟨p, hp⟩ : ∃ p, xs[k]? = some p := ⟨_, List.getElem?_eq_getElem hlt⟩
      obtain ⟨b, off, rfl, hbl, h0, h1, h2⟩ := (HR.out.below hbw) k p hp
      have hsucc := ang_succ xs k p hp
      obtain ⟨o0, o1, o2, o3⟩ := ok_of HS.out hp
      have hle := ang_le HS.out k
      obtain ⟨n, hln⟩ : ∃ n, ang (xs.take k) = n := ⟨_, rfl⟩
      have hl3 : n.length = 3 := hln ▸ ang_length _
      rw [hln] at hrow hle hsucc
      obtain ⟨x, hx⟩ : ∃ x, n[p.a.toNat]? = some x := ⟨_, List.getElem?_eq_getElem (by omega)⟩
      have hxb := hle x (List.mem_of_getElem? hx)
      have c0 := hrow.cell hx
      have f0 := hrow.frozen p.a.toNat
      have hset : angAdd n p = n.set p.a.toNat (x + turnOf p) := by unfold angAdd; rw [List.getElem!_eq_getElem?_getD, hx]; rfl
      have HSET := Lib.hid (hsucc.trans hset); clear hsucc hset
      obtain ⟨a, h, bb⟩ := p
      simp only at h0 h1 h2 o0 o1 o2 o3 c0 f0 hx
      obtain ⟨a', rfl⟩ : ∃ a' : Nat, a = a' := ⟨a.toNat, by omega⟩
      obtain ⟨h', rfl⟩ : ∃ h' : Nat, h = h' := ⟨h.toNat, by omega⟩
      have hp2 := two_pow_le (24 - h') (by omega)
      have hT : turnOf ⟨(a' : Int), (h' : Int), bb⟩ = if bb then -(2 ^ (24 - h')) else 2 ^ (24 - h') := by
        unfold turnOf; rw [show (24 - (h' : Int)).toNat = 24 - h' by omega]
      rw [hT] at HSET
      clear hT
      rw [Int.toNat_natCast] at c0 f0 hx HSET
      obtain ⟨P, hP⟩ : ∃ P : Int, 2 ^ (24 - h') = P := ⟨_, rfl⟩
      rw [hP] at hp2 HSET
      have ha3 : a' < 3 := by omega
      have ha4 : (a' : Int) < 3 := by omega
      have w3 : IntKind.i64.wrap (x + P) = x + P := wrap_small _ (by omega) (by omega)
      have w4 : IntKind.i64.wrap (x + -P) = x + -P := wrap_small _ (by omega) (by omega)
      have w1 : IntKind.i64.wrap (2 ^ (24 - h')) = P := by rw [hP]; exact wrap_small P (by omega) (by omega)
      have w2 : IntKind.i64.wrap (-P) = -P := wrap_small _ (by omega) (by omega)
      have HROW := Lib.hid hrow; clear hrow
      have HP := Lib.hid hp; clear hp
      have HX := Lib.hid hx; clear hx hle hln
      go_wp2
      · go_still_tail 17, (by kernel_rfl)
        go_wp2
        have hb : bb = true := by assumption
        rw [hb] at HSET
        refine ⟨⟨k + 1, by omega, by go_num, ?_, (hbw.setCell (Nat.le_refl _) _).drew⟩, by simp [intOf]; omega⟩
        rw [HSET.out]
        exact HROW.out.set (by omega) _
      · go_still_tail 17, (by kernel_rfl)
        go_wp2
        have hb : bb = false := by assumption
        rw [hb] at HSET
        refine ⟨⟨k + 1, by omega, by go_num, ?_, (hbw.setCell (Nat.le_refl _) _).drew⟩, by simp [intOf]; omega⟩
        rw [HSET.out]
        exact HROW.out.set (by omega) _
    · obtain rfl : k = xs.length := by omega
      have HRow := Lib.hid hrow; clear hrow
      go_wp2
      go_ret2
      have h3 := HRow.out
      rw [List.take_length] at h3
      have e3 : Value.slice (some ⟨w.heap.size, 0, none⟩) 3 3 = .slice (some ⟨w.heap.size, 0, none⟩) (ang xs).length (ang xs).length := by rw [ang_length]
      exact ⟨_, rfl, .inr ⟨w.heap.size, e3, Nat.le_refl _, h3⟩, hbw⟩
theorem implAngles_yes (A : Option Addr) (c : Nat) (xs : List Pu) (w : World) (hs : isSeq xs = true) (hr : Rd w A xs) :
    Calls Tryz.prog 13 #[.slice A xs.length c] w (MadeI2 (ang xs) 0 w) := by
  have hn : xs.length ≤ 60 := by unfold isSeq at hs; simp at hs; exact hs.1
  have HS := Lib.hid hs; clear hs
  have HR := Lib.hid hr; clear hr
  have hmk := make_ints
  go_enter Tryz.func13, Tryz.ntmps13
  go_wp2_with (go_at_call 8; refine (implIsSequence_any _ _ _ _ (by omega) HR.out).mono ?_; rintro e wa ⟨rfl, b1⟩; rw [HS.out]; have B1 := Lib.hid b1; clear b1)
  clear hmk
  go_loopw [14] (fun i wr => ∃ k : Nat, k ≤ xs.length ∧ i = .int .i64 k ∧ IRow wr wa.heap.size (ang (xs.take k)) ∧ Below w.heap.size w wr) (fun i _ => xs.length - (intOf i).toNat)
  case atStart => exact ⟨0, Nat.zero_le _, rfl, heap_alloc_new wa _, B1.out.alloc B1.out.size _⟩
  case round =>
    obtain ⟨k, hk, rfl, hrow, hbw⟩ := hrel
    by_cases hlt : k < xs.length
    · obtain ⟨p, hp⟩ : ∃ p, xs[k]? = some p := ⟨_, List.getElem?_eq_getElem hlt⟩
      obtain ⟨b, off, rfl, hbl, h0, h1, h2⟩ := (HR.out.below hbw) k p hp
      have hsucc := ang_succ xs k p hp
      obtain ⟨o0, o1, o2, o3⟩ := ok_of HS.out hp
      have hle := ang_le HS.out k
      obtain ⟨n, hln⟩ : ∃ n, ang (xs.take k) = n := ⟨_, rfl⟩
      have hl3 : n.length = 3 := hln ▸ ang_length _
      rw [hln] at hrow hle hsucc
      obtain ⟨x, hx⟩ : ∃ x, n[p.a.toNat]? = some x := ⟨_, List.getElem?_eq_getElem (by omega)⟩
      have hxb := hle x (List.mem_of_getElem? hx)
      have c0 := hrow.cell hx
      have f0 := hrow.frozen p.a.toNat
      have hset : angAdd n p = n.set p.a.toNat (x + turnOf p) := by unfold angAdd; rw [List.getElem!_eq_getElem?_getD, hx]; rfl
      have HSET := Lib.hid (hsucc.trans hset); clear hsucc hset
      obtain ⟨a, h, bb⟩ := p
      simp only at h0 h1 h2 o0 o1 o2 o3 c0 f0 hx
      obtain ⟨a', rfl⟩ : ∃ a' : Nat, a = a' := ⟨a.toNat, by omega⟩
      obtain ⟨h', rfl⟩ : ∃ h' : Nat, h = h' := ⟨h.toNat, by omega⟩
      have hp2 := two_pow_le (24 - h') (by omega)
      have hT : turnOf ⟨(a' : Int), (h' : Int), bb⟩ = if bb then -(2 ^ (24 - h')) else 2 ^ (24 - h') := by
        unfold turnOf; rw [show (24 - (h' : Int)).toNat = 24 - h' by omega]
      rw [hT] at HSET
      clear hT
      rw [Int.toNat_natCast] at c0 f0 hx HSET
      obtain ⟨P, hP⟩ : ∃ P : Int, 2 ^ (24 - h') = P := ⟨_, rfl⟩
      rw [hP] at hp2 HSET
      have ha3 : a' < 3 := by omega
      have ha4 : (a' : Int) < 3 := by omega
      have w3 : IntKind.i64.wrap (x + P) = x + P := wrap_small _ (by omega) (by omega)
      have w4 : IntKind.i64.wrap (x + -P) = x + -P := wrap_small _ (by omega) (by omega)
      have w1 : IntKind.i64.wrap (2 ^ (24 - h')) = P := by rw [hP]; exact wrap_small P (by omega) (by omega)
      have w2 : IntKind.i64.wrap (-P) = -P := wrap_small _ (by omega) (by omega)
      have hltw := hrow.lt
      have hba := hbw
      have HROW := Lib.hid hrow; clear hrow
      have HP := Lib.hid hp; clear hp
      have HX := Lib.hid hx; clear hx hle hln
      go_wp2
      · have hb : bb = true := by assumption
        rw [hb] at HSET
        refine ⟨⟨k + 1, by omega, by go_num, ?_, (hbw.setCell (p := ⟨wa.heap.size, a', none⟩) B1.out.size _).alloc (hbw.setCell (p := ⟨wa.heap.size, a', none⟩) B1.out.size _).size _⟩, by simp [intOf]; omega⟩
        rw [HSET.out]
        exact (HROW.out.set (by omega) _).keep (Below.heap_alloc _ _ _ (HROW.out.set (by omega) _).lt)
      · have hb : bb = false := by assumption
        rw [hb] at HSET
        refine ⟨⟨k + 1, by omega, by go_num, ?_, (hbw.setCell (p := ⟨wa.heap.size, a', none⟩) B1.out.size _).alloc (hbw.setCell (p := ⟨wa.heap.size, a', none⟩) B1.out.size _).size _⟩, by simp [intOf]; omega⟩
        rw [HSET.out]
        exact (HROW.out.set (by omega) _).keep (Below.heap_alloc _ _ _ (HROW.out.set (by omega) _).lt)
    · obtain rfl : k = xs.length := by omega
      have HRow := Lib.hid hrow; clear hrow
      go_wp2
      go_ret2
      have h3 := HRow.out
      rw [List.take_length] at h3
      have e3 : Value.slice (some ⟨wa.heap.size, 0, none⟩) 3 3 = .slice (some ⟨wa.heap.size, 0, none⟩) (ang xs).length (ang xs).length := by rw [ang_length]
      exact ⟨_, rfl, .inr ⟨wa.heap.size, e3, B1.out.size, h3⟩, hbw⟩
theorem implAngles_any (A : Option Addr) (c : Nat) (xs : List Pu) (w : World) (hn : xs.length ≤ 1048576) (hr : Rd w A xs) :
    Calls Tryz.prog 13 #[.slice A xs.length c] w (MadeI2 (angRes xs) (angCode xs) w) := by
  unfold angRes angCode
  by_cases h : isSeq xs = true
  · rw [if_pos h, if_pos h]; exact implAngles_yes A c xs w h hr
  · rw [if_neg h, if_neg h]; exact implAngles_no A c xs w hn (by simpa using h) hr
theorem specAngles_any (A : Option Addr) (c : Nat) (xs : List Pu) (w : World) (hn : xs.length ≤ 1048576) (hr : Rd w A xs) :
    Calls Tryz.prog 24 #[.slice A xs.length c] w (MadeI2 (angRes xs) (angCode xs) w) := by
  unfold angRes angCode
  by_cases h : isSeq xs = true
  · rw [if_pos h, if_pos h]; exact specAngles_yes A c xs w h hr
  · rw [if_neg h, if_neg h]; exact specAngles_no A c xs w hn (by simpa using h) hr
end Go.Proofs.YtdijnjigamkhjaaGreatDoor
