/- The echo of a list of pulses. -/
import Derived.Test.YtdijnjigamkhjaaGreatDoorE
import Derived.Lib.AppendZeros
namespace Go.Proofs.YtdijnjigamkhjaaGreatDoor
open Go.RowKit

def echo (xs : List Pu) : List Pu := xs ++ [Pu.zero] ++ (xs ++ [Pu.zero])
def echoRes (xs : List Pu) : List Pu := if isSeq xs then (if xs.length ≤ 29 then echo xs else []) else []
def echoCode (xs : List Pu) : Int := if isSeq xs then (if xs.length ≤ 29 then 0 else 3) else 1

theorem rd_zero (w : World) : Rd (w.alloc (.cells #[.int .i64 0, .int .i64 0, .bool false] 43)) (some ⟨w.heap.size, 0, none⟩) [Pu.zero] := rd_one w Pu.zero

theorem specEcho_no (A : Option Addr) (c : Nat) (xs : List Pu) (w : World) (hn : xs.length ≤ 1048576) (hs : isSeq xs = false) (hr : Rd w A xs) :
    Calls Tryz.prog 20 #[.slice A xs.length c] w (Made2 [] 1 w) := by
  have HS := Lib.hid hs; clear hs
  have HR := Lib.hid hr; clear hr
  go_enter Tryz.func20, Tryz.ntmps20
  go_wp2_with (go_at_call 31; refine (l05Is_any _ _ _ _ hn HR.out).mono ?_; rintro e w' ⟨rfl, rfl⟩; rw [HS.out])
  go_ret2
  exact ⟨_, rfl, .inl ⟨rfl, rfl⟩, Below.refl _ _⟩
theorem specEcho_long (A : Option Addr) (c : Nat) (xs : List Pu) (w : World) (hs : isSeq xs = true) (hl : 29 < xs.length) (hr : Rd w A xs) :
    Calls Tryz.prog 20 #[.slice A xs.length c] w (Made2 [] 3 w) := by
  have hn : xs.length ≤ 60 := by unfold isSeq at hs; simp at hs; exact hs.1
  have HS := Lib.hid hs; clear hs
  have HR := Lib.hid hr; clear hr
  go_enter Tryz.func20, Tryz.ntmps20
  go_wp2_with (go_at_call 31; refine (l05Is_any _ _ _ _ (by omega) HR.out).mono ?_; rintro e w' ⟨rfl, rfl⟩; rw [HS.out])
  go_ret2
  exact ⟨_, rfl, .inl ⟨rfl, rfl⟩, Below.refl _ _⟩
set_option maxHeartbeats 400000 in
theorem specEcho_yes (A : Option Addr) (c : Nat) (xs : List Pu) (w : World) (hs : isSeq xs = true) (hl : xs.length ≤ 29) (hr : Rd w A xs) :
    Calls Tryz.prog 20 #[.slice A xs.length c] w (Made2 (echo xs) 0 w) := by
  have HS := Lib.hid hs; clear hs
  have HR := Lib.hid hr; clear hr
  go_enter Tryz.func20, Tryz.ntmps20
  go_wp2_with (first | (go_at_call 31; refine (l05Is_any _ _ _ _ (by omega) HR.out).mono ?_; rintro e w' ⟨rfl, rfl⟩; rw [HS.out]) | (at_builtin; refine wpList_append_p rfl (.tmp 15) (.tmp 16) rfl w.heap.size _ [] rfl ?c1 _ _ _ xs rfl rfl ?c2 ?c3 ?c4 ?c5))
  case c1 => exact own_empty_a w
  case c2 => exact HR.out.below ((Below.refl _ _).alloc (Nat.le_refl _) _)
  case c3 => simp; omega
  case c4 => simp
  case c5 =>
    intro v1 w1 o1 g1 _
    have B1 : Below w.heap.size w w1 := ((Below.refl _ _).alloc (Nat.le_refl _) _).grown g1 (by simp) (fun g e => by simp [Value.ownBlock] at e; omega)
    have O1 := Lib.hid o1
    clear o1 g1
    go_wp2_with (at_builtin; refine wpList_append_p rfl (.tmp 17) (.tmp 19) rfl w.heap.size _ ([] ++ xs) rfl ?d1 _ _ 1 [Pu.zero] rfl rfl ?d2 ?d3 ?d4 ?d5)
    case d1 => exact O1.out.below ((Below.refl _ _).alloc (Nat.le_refl _) _)
    case d2 => exact rd_zero w1
    case d3 => simp; omega
    case d4 => exact Nat.le_trans B1.size (by simp)
    case d5 =>
      intro v2 w2 o2 g2 _
      have B2 : Below w.heap.size w w2 := (B1.alloc B1.size _).grown g2 (Nat.le_trans B1.size (by simp)) (fun g e => (O1.out.base g e).1)
      have O2 := Lib.hid o2
      clear o2 g2
      go_wp2_with (at_builtin; refine wpList_append_p rfl (.tmp 21) (.tmp 22) rfl w.heap.size _ ([] ++ xs ++ [Pu.zero]) rfl ?e1 _ _ _ xs rfl rfl ?e2 ?e3 ?e4 ?e5)
      case e1 => exact O2.out
      case e2 => exact HR.out.below B2
      case e3 => simp; omega
      case e4 => exact B2.size
      case e5 =>
        intro v3 w3 o3 g3 _
        have B3 : Below w.heap.size w w3 := B2.grown g3 B2.size (fun g e => (O2.out.base g e).1)
        have O3 := Lib.hid o3
        clear o3 g3
        go_wp2_with (at_builtin; refine wpList_append_p rfl (.tmp 23) (.tmp 25) rfl w.heap.size _ (xs ++ Pu.zero :: xs) rfl ?f1 _ _ 1 [Pu.zero] rfl rfl ?f2 ?f3 ?f4 ?f5)
        case f1 => exact O3.out.below ((Below.refl _ _).alloc (Nat.le_refl _) _)
        case f2 => exact rd_zero w3
        case f3 => simp; omega
        case f4 => exact Nat.le_trans B3.size (by simp)
        case f5 =>
          intro v4 w4 o4 g4 _
          have B4 : Below w.heap.size w w4 := (B3.alloc B3.size _).grown g4 (Nat.le_trans B3.size (by simp)) (fun g e => (O3.out.base g e).1)
          have O4 := Lib.hid o4
          clear o4 g4
          go_wp2
          go_ret2
          exact ⟨_, rfl, by simpa [echo] using O4.out, B4⟩

set_option maxRecDepth 100000 in
theorem grow_any (n : Nat) (w : World) (h0 : 0 < n) (hn : n ≤ 1000) : Calls Tryz.prog 63 #[.slice none 0 0, .int .i64 n] w (Made [] w) := by
  obtain ⟨i0, hi, hz0, hz1, hz2⟩ := info_parts info43
  have hz := fun (w : World) (ty : TypeId) => Lib.run_append_nil_zeros (P := Tryz.prog) w 24 3 ty 43 i0 _ .i64 .i64 Tryz.underlying24 Tryz.underlying3 hi hz0 n h0 (by rw [hz1]; omega) (by omega) (by rw [hz2]; omega)
  have HZ := Lib.hid hz; clear hz
  go_enter Tryz.func63, Tryz.ntmps63
  go_wp2_with (at_builtin; refine Lib.wpList_append_run _ rfl _ _ 24 3 rfl _ _ rfl rfl _ _ (HZ.out _ _) ?_)
  go_ret
  refine ⟨_, rfl, .inr ⟨w.heap.size, grownCap w n 0 43, _, rfl, Nat.le_refl _, (?_ : Row _ _ [] (Builtin.zeroCells #[Value.int IntKind.i64 0, Value.int IntKind.i64 0, Value.bool false] n ++ Builtin.zeroCells #[Value.int IntKind.i64 0, Value.int IntKind.i64 0, Value.bool false] (grownCap w n 0 43 - n)).toList), Nat.zero_le _, grownCap_le_maxLen w n 0 43 (by unfold maxLen; omega), ?_⟩, ((Below.refl _ _).alloc (Nat.le_refl _) _).drew⟩
  · unfold Row
    exact heap_alloc_new w _
  · have := grownCap_ge w n 0 43
    simp [Builtin.zeroCells]
    omega

set_option maxHeartbeats 400000 in
theorem concat_two (B cap base : Nat) (v : Value) (ys : List Pu) (w : World) (hc0 : w.cell? ⟨B, 0, none⟩ = some v) (hc1 : w.cell? ⟨B, 1, none⟩ = some v) (h0 : 0 < ys.length) (hn : ys.length ≤ 500) (ho : Own w base v ys) :
    Calls Tryz.prog 41 #[.slice (some ⟨B, 0, none⟩) 2 cap] w (Made (ys ++ ys) w) := by
  have hB : B < w.heap.size := World.block_lt_of_cell? w ⟨B, 0, none⟩ hc0
  obtain ⟨A, c, rfl, hr⟩ := ho.rd
  have HR := Lib.hid hr; clear hr ho
  obtain ⟨n, hl⟩ : ∃ n, ys.length = n := ⟨_, rfl⟩
  rw [hl] at hc0 hc1 h0 hn
  have HL := Lib.hid hl; clear hl
  have H0 := Lib.hid hc0
  have H1 := Lib.hid hc1
  clear hc0 hc1
  go_enter Tryz.func41, Tryz.ntmps41
  go_wp2
  go_loop [3, 11] (fun t i => ∃ k : Nat, k ≤ 2 ∧ i = .int .i64 k ∧ t = .int .i64 (n * k)) (fun _ i => 2 - (intOf i).toNat)
  case atStart => exact ⟨0, by omega, rfl, by simp⟩
  case round =>
    obtain ⟨k, hk, rfl, rfl⟩ := hrel
    rcases (by omega : k = 0 ∨ k = 1 ∨ k = 2) with rfl | rfl | rfl
    · have hc0 := H0.out
      go_wp2
      exact ⟨⟨1, by omega, rfl, by simp⟩, by simp [intOf]⟩
    · have hc1 := H1.out
      go_wp2
      exact ⟨⟨2, by omega, rfl, by rw [show (n : Int) + n = n * ((2 : Nat) : Int) by omega]⟩, by simp [intOf]⟩
    · obtain ⟨m, hm⟩ : ∃ m, 2 * n = m := ⟨_, rfl⟩
      have e : (n : Int) * ((2 : Nat) : Int) = (m : Int) := by omega
      rw [e]
      have hm0 : 0 < m := by omega
      have hm1 : m ≤ 1000 := by omega
      clear e hm hk
      go_wp2_with (go_at_call 63; refine (grow_any m _ hm0 hm1).mono ?_; rintro e w1 ⟨v1, rfl, o1, b1⟩)
      have O1 := Lib.hid o1; clear o1
      go_loopw [6, 27] (fun v i wr => ∃ k : Nat, k ≤ 2 ∧ i = .int .i64 k ∧ Own wr w.heap.size v (if k = 0 then [] else if k = 1 then ys else ys ++ ys) ∧ Below w.heap.size w wr) (fun _ i _ => 2 - (intOf i).toNat)
      case atStart => exact ⟨0, by omega, rfl, O1.out, b1⟩
      case round =>
        obtain ⟨k, hk, rfl, hown, hbw⟩ := hrel
        rcases (by omega : k = 0 ∨ k = 1 ∨ k = 2) with rfl | rfl | rfl
        · have hc0 := (hbw.cell (p := ⟨B, 0, none⟩) hB).trans H0.out
          have O := Lib.hid hown; clear hown
          go_wp2_with (at_builtin; refine wpList_append_p rfl _ _ rfl w.heap.size _ [] rfl ?c1 _ _ n ys ?c0 rfl ?c2 ?c3 ?c4 ?c5)
          case c0 => exact HL.out.symm
          case c1 => exact O.out
          case c2 => exact HR.out.below hbw
          case c3 => rw [HL.out]; omega
          case c4 => exact hbw.size
          case c5 =>
            intro v2 w2 o2 g2 _
            have B2 : Below w.heap.size w w2 := hbw.grown g2 hbw.size (fun g e => (O.out.base g e).1)
            have O2 := Lib.hid o2
            clear o2 g2
            go_wp2
            exact ⟨⟨1, by omega, rfl, O2.out, B2⟩, by simp [intOf]⟩
        · have hc1 := (hbw.cell (p := ⟨B, 1, none⟩) hB).trans H1.out
          have O := Lib.hid hown; clear hown
          go_wp2_with (at_builtin; refine wpList_append_p rfl _ _ rfl w.heap.size _ ys rfl ?d1 _ _ n ys ?d0 rfl ?d2 ?d3 ?d4 ?d5)
          case d0 => exact HL.out.symm
          case d1 => exact O.out
          case d2 => exact HR.out.below hbw
          case d3 => rw [HL.out]; omega
          case d4 => exact hbw.size
          case d5 =>
            intro v2 w2 o2 g2 _
            have B2 : Below w.heap.size w w2 := hbw.grown g2 hbw.size (fun g e => (O.out.base g e).1)
            have O2 := Lib.hid o2
            clear o2 g2
            go_wp2
            exact ⟨⟨2, by omega, rfl, O2.out, B2⟩, by simp [intOf]⟩
        · have O := Lib.hid hown; clear hown
          go_wp2
          go_ret
          exact ⟨_, rfl, O.out, hbw⟩

theorem implEcho_no (A : Option Addr) (c : Nat) (xs : List Pu) (w : World) (hn : xs.length ≤ 1048576) (hs : isSeq xs = false) (hr : Rd w A xs) :
    Calls Tryz.prog 19 #[.slice A xs.length c] w (Made2 [] 1 w) := by
  have HS := Lib.hid hs; clear hs
  have HR := Lib.hid hr; clear hr
  go_enter Tryz.func19, Tryz.ntmps19
  go_wp2_with (go_at_call 8; refine (implIsSequence_any _ _ _ _ hn HR.out).mono ?_; rintro e w1 ⟨rfl, b1⟩; rw [HS.out])
  go_ret2
  exact ⟨_, rfl, .inl ⟨rfl, rfl⟩, b1⟩

set_option maxHeartbeats 400000 in
theorem implEcho_seq (A : Option Addr) (c : Nat) (xs : List Pu) (w : World) (hs : isSeq xs = true) (hr : Rd w A xs) :
    Calls Tryz.prog 19 #[.slice A xs.length c] w (Made2 (if xs.length ≤ 29 then echo xs else []) (if xs.length ≤ 29 then 0 else 3) w) := by
  have hn : xs.length ≤ 60 := by unfold isSeq at hs; simp at hs; exact hs.1
  have HS := Lib.hid hs; clear hs
  have HR := Lib.hid hr; clear hr
  obtain ⟨R, hR⟩ : ∃ R, (if xs.length ≤ 29 then echo xs else []) = R := ⟨_, rfl⟩
  obtain ⟨C, hC⟩ : ∃ C : Int, (if xs.length ≤ 29 then 0 else 3) = C := ⟨_, rfl⟩
  rw [hR, hC]
  have HRr := Lib.hid hR; clear hR
  have HCc := Lib.hid hC; clear hC
  go_enter Tryz.func19, Tryz.ntmps19
  go_wp2_with (first | (go_at_call 8; refine (implIsSequence_any _ _ _ _ (by omega) HR.out).mono ?_; rintro e w1 ⟨rfl, b1⟩; rw [HS.out]))
  refine (clone_any _ _ _ _ (by omega) (HR.out.below b1)).mono ?_
  rintro e w2 ⟨v2, rfl, o2, b2⟩
  have B2 : Below w.heap.size w w2 := b1.trans (b2.mono b1.size)
  have O2 := Lib.hid (o2.mono b1.size); clear o2
  go_wp2_with (at_builtin; refine wpList_append_p rfl _ _ rfl w.heap.size _ xs rfl ?c1 _ _ 1 [Pu.zero] rfl rfl ?c2 ?c3 ?c4 ?c5)
  case c1 => exact O2.out.below ((Below.refl _ _).alloc (Nat.le_refl _) _)
  case c2 => exact rd_zero w2
  case c3 => simp; omega
  case c4 => exact Nat.le_trans B2.size (by simp)
  case c5 =>
    intro v3 w3 o3 g3 _
    have B3 : Below w.heap.size w w3 := (B2.alloc B2.size _).grown g3 (Nat.le_trans B2.size (by simp)) (fun g e => (O2.out.base g e).1)
    have O3 := Lib.hid o3
    clear o3 g3
    obtain ⟨A3, c3, rfl, _⟩ := O3.out.rd
    obtain ⟨ys, hy⟩ : ∃ ys, xs ++ [Pu.zero] = ys := ⟨_, rfl⟩
    rw [hy] at O3 ⊢
    have HY := Lib.hid hy; clear hy
    have hyl : ys.length = xs.length + 1 := by rw [← HY.out]; simp
    have hy0 : 0 < ys.length := by omega
    have hy1 : ys.length ≤ 500 := by omega
    have HYL := Lib.hid hyl; clear hyl
    go_wp2_with (go_at_call 41; refine (concat_two w3.heap.size 2 w.heap.size (.slice A3 ys.length c3) ys _ ?d1 ?d2 hy0 hy1 ?d3).mono ?d4)
    case d1 => simp
    case d2 => simp
    case d3 => exact O3.out.below ((Below.refl _ _).alloc (Nat.le_refl _) _)
    case d4 =>
      rintro e w4 ⟨v4, rfl, o4, b4⟩
      have B4 : Below w.heap.size w w4 := (B3.alloc B3.size _).trans (b4.mono (Nat.le_trans B3.size (by simp)))
      have O4 := Lib.hid (o4.mono (B := w.heap.size) (Nat.le_trans B3.size (by simp))); clear o4
      obtain ⟨A4, c4, rfl, _⟩ := O4.out.rd
      have hl4 : (ys ++ ys).length = 2 * xs.length + 2 := by rw [List.length_append]; have := HYL.out; omega
      rw [hl4]
      have hyy : ys ++ ys = echo xs := by rw [← HY.out]; rfl
      have HYY := Lib.hid hyy; clear hyy
      have HL4 := Lib.hid hl4; clear hl4
      by_cases h29 : xs.length ≤ 29
      · have hRr := HRr.out
        have hCc := HCc.out
        rw [if_pos h29] at hRr hCc
        subst hRr hCc
        go_wp2
        go_ret2
        refine ⟨_, rfl, ?_, B4⟩
        have o := O4.out
        rw [HL4.out, HYY.out] at o
        exact o
      · have hRr := HRr.out
        have hCc := HCc.out
        rw [if_neg h29] at hRr hCc
        subst hRr hCc
        go_wp2
        go_ret2
        exact ⟨_, rfl, .inl ⟨rfl, rfl⟩, B4⟩

theorem implEcho_any (A : Option Addr) (c : Nat) (xs : List Pu) (w : World) (hn : xs.length ≤ 1048576) (hr : Rd w A xs) :
    Calls Tryz.prog 19 #[.slice A xs.length c] w (Made2 (echoRes xs) (echoCode xs) w) := by
  unfold echoRes echoCode
  by_cases h : isSeq xs = true
  · rw [if_pos h, if_pos h]; exact implEcho_seq A c xs w h hr
  · rw [if_neg h, if_neg h]; exact implEcho_no A c xs w hn (by simpa using h) hr
theorem specEcho_any (A : Option Addr) (c : Nat) (xs : List Pu) (w : World) (hn : xs.length ≤ 1048576) (hr : Rd w A xs) :
    Calls Tryz.prog 20 #[.slice A xs.length c] w (Made2 (echoRes xs) (echoCode xs) w) := by
  unfold echoRes echoCode
  by_cases h : isSeq xs = true
  · rw [if_pos h, if_pos h]
    by_cases hl : xs.length ≤ 29
    · rw [if_pos hl, if_pos hl]; exact specEcho_yes A c xs w h hl hr
    · rw [if_neg hl, if_neg hl]; exact specEcho_long A c xs w h (by omega) hr
  · rw [if_neg h, if_neg h]; exact specEcho_no A c xs w hn (by simpa using h) hr
theorem echoRes_length (xs : List Pu) (_ : xs.length ≤ 1048576) : (echoRes xs).length ≤ 1048576 := by
  unfold echoRes
  split
  · split
    · simp [echo]; omega
    · simp
  · simp
end Go.Proofs.YtdijnjigamkhjaaGreatDoor
