/- Walks: a list of pulses is drawn that seldom is no sequence. -/
import Derived.Test.YtdijnjigamkhjaaGreatDoorDd
import Derived.Test.YtdijnjigamkhjaaGreatDoorD
namespace Go.Proofs.YtdijnjigamkhjaaGreatDoor
open Go.RowKit

/-- The list and the source under way. -/
structure Lw (w : World) (D : Nat) (A : Option Addr) (n c : Nat) (v : Value) (xs : List Pu) (wx : World) : Prop where
  own : Own wx w.heap.size v xs
  src : ∃ at' h', Src wx D A n c at' h'
  gr : w.grownBy wx (some D)
theorem Lw.alloc {w wx : World} {D : Nat} {A : Option Addr} {n c : Nat} {v : Value} {xs : List Pu} (x : Lw w D A n c v xs wx) (o : Obj) : Lw w D A n c v xs (wx.alloc o) := by
  obtain ⟨a', h', hs⟩ := x.src
  exact ⟨x.own.below ((Below.refl _ _).alloc (Nat.le_refl _) _), ⟨_, _, hs.alloc o⟩, grown_alloc x.gr o⟩
theorem Lw.next {w wx w2 : World} {D : Nat} {A : Option Addr} {n c a3 h3 : Nat} {v : Value} {xs : List Pu} (x : Lw w D A n c v xs wx) (hD : D < w.heap.size) (hs : Src w2 D A n c a3 h3) (hg : wx.grownBy w2 (some D)) : Lw w D A n c v xs w2 :=
  ⟨x.own.grownD hD hg, ⟨_, _, hs⟩, grown_trans x.gr hg⟩
theorem Lw.more {w wx w2 : World} {D : Nat} {A : Option Addr} {n c a0 h0 : Nat} {v v' : Value} {xs ys : List Pu} (x : Lw w D A n c v xs wx) (h0 : Src w D A n c a0 h0) (ho : Own w2 w.heap.size v' ys) (hg : wx.grownBy w2 v.ownBlock) : Lw w D A n c v' ys w2 := by
  have hD := h0.lt
  have hvD : v.ownBlock ≠ some D := fun e => by have := (x.own.lt' _ e).1; omega
  have g2 : w.grownBy w2 (some D) := ⟨hg.os.trans x.gr.os, hg.tape.trans x.gr.tape, hg.output.trans x.gr.output, Nat.le_trans x.gr.size hg.size, fun i hi hne => (hg.block i (Nat.lt_of_lt_of_le hi x.gr.size) (fun e => by have := (x.own.lt' _ e.symm).1; omega)).trans (x.gr.block i hi hne)⟩
  obtain ⟨a', h', hs⟩ := x.src
  exact ⟨ho, ⟨a', h', h0.far g2 ((hg.block D hs.lt (fun e => hvD e.symm)).trans hs.s) hs.hat hs.hh⟩, g2⟩
theorem Lw.size {w wx : World} {D : Nat} {A : Option Addr} {n c : Nat} {v : Value} {xs : List Pu} (x : Lw w D A n c v xs wx) : w.heap.size ≤ wx.heap.size := x.gr.size
theorem rd_pb {W : World} {a h : Int} {b : Bool} {P : Nat} (hP : Pb W P a h b) : Rd W (some ⟨P, 0, none⟩) [⟨a, h, b⟩] := by
  intro k p hk
  have hk0 : k = 0 := by
    have := (List.getElem?_eq_some_iff.1 hk).1
    simpa using this
  subst hk0
  cases hk
  obtain ⟨c0, c1, c2⟩ := hP.cells
  exact ⟨P, 0, rfl, hP.lt, by simpa using c0, by simpa using c1, by simpa using c2⟩
set_option maxRecDepth 100000 in
set_option maxHeartbeats 4000000 in
theorem l05Spoil_any (D : Nat) (A : Option Addr) (n c at_ h : Nat) (w : World) (hS : Src w D A n c at_ h) :
    Calls Tryz.prog 27 #[.pointer (some ⟨D, 0, none⟩)] w (DrawsP 61 w D A n c) := by
  have hD := hS.lt
  have HSS := Lib.hid hS
  have hP0 := heap_alloc_new w (.cells #[.int .i64 4, .int .i64 10, .int .i64 29, .int .i64 60] 2)
  have KP := Lib.hid (pick_draws D A n c _ _ w.heap.size 4 [4, 10, 29, 60] (w.alloc (.cells #[.int .i64 4, .int .i64 10, .int .i64 29, .int .i64 60] 2)) (by simp) (by simp) (by omega) (by simp) (by
        intro k v hk
        simp only [World.cell?, hP0]
        match k, hk with
        | 0, hk => cases hk; rfl
        | 1, hk => cases hk; rfl
        | 2, hk => cases hk; rfl
        | 3, hk => cases hk; rfl) (hS.alloc _))
  have G0 := Lib.hid (World.grownBy_alloc w (.cells #[.int .i64 4, .int .i64 10, .int .i64 29, .int .i64 60] 2) (some D))
  clear hS hP0
  unfold DrawsI DrawsP at *
  go_enter Tryz.func27, Tryz.ntmps27
  go_wp2_with fail
  refine KP.out.mono ?_
  rintro e w1 ⟨x, a1, h1, rfl, hx, hs1, hg1⟩
  obtain ⟨m, rfl, hm⟩ : ∃ m : Nat, x = (m : Int) ∧ m ≤ 60 := by
    simp only [List.mem_cons, List.not_mem_nil, or_false] at hx
    exact ⟨x.toNat, by omega, by omega⟩
  have G1 := Lib.hid (grown_trans G0.out hg1)
  have K1 := Lib.hid (l05Draw_any D A n c _ _ m w1 hm hs1)
  unfold DrawsO at K1
  clear hx hs1 hg1 KP G0
  go_wp2_with fail
  refine K1.out.mono ?_
  rintro e w2 ⟨v, xs, a2, h2, rfl, hO, ⟨hl, _⟩, hs2, hg2⟩
  have L2 := Lib.hid (show Lw w D A n c v xs w2 from ⟨hO.mono G1.out.size, ⟨_, _, hs2⟩, grown_trans G1.out hg2⟩)
  have K2 := Lib.hid (next_draws D A n c _ _ 40 w2 (by omega) (by omega) hs2)
  have hl60 : xs.length ≤ 60 := Nat.le_trans hl hm
  unfold DrawsI at K2
  clear hO hl hs2 hg2 K1 G1
  go_wp2_with fail
  refine K2.out.mono ?_
  rintro e w3 ⟨y, a3, h3, rfl, ⟨y0, y1⟩, hs3, hg3⟩
  have L3 := Lib.hid (L2.out.next hD hs3 hg3)
  clear hs3 hg3 L2 K2
  obtain ⟨Av, cp, hv, _⟩ := L3.out.own.rd
  subst hv
  by_cases y00 : y = 0
  · subst y00
    obtain ⟨a', h', hs⟩ := L3.out.src
    have hP3 := heap_alloc_new w3 (.cells #[.int .i64 3, .int .i64 (-1)] 2)
    have hDl := hs.lt
    have KP := Lib.hid (pick_draws D A n c _ _ w3.heap.size 2 [3, -1] (w3.alloc (.cells #[.int .i64 3, .int .i64 (-1)] 2)) (by simp) (by simp) (by omega) (by simp) (by
      intro k v hk
      simp only [World.cell?, hP3]
      match k, hk with
      | 0, hk => cases hk; rfl
      | 1, hk => cases hk; rfl) (hs.alloc _))
    have L4 := Lib.hid (L3.out.alloc (.cells #[.int .i64 3, .int .i64 (-1)] 2))
    unfold DrawsI at KP
    clear hs hP3 hDl
    go_wp2_with fail
    refine KP.out.mono ?_
    rintro e w4 ⟨z, a4, h4, rfl, _, hs4, hg4⟩
    have L5 := Lib.hid (L4.out.next hD hs4 hg4)
    clear hs4 hg4 KP L4
    go_wp2_with (at_builtin; refine wpList_append_p rfl (.tmp 13) (.tmp 18) rfl w.heap.size _ xs rfl ?f1 _ _ 1 [⟨z, 0, false⟩] rfl rfl ?f2 ?f3 ?f4 ?f5)
    case f1 => exact (L5.out.alloc _).own
    case f2 => exact rd_pb (pb_new w4 _ _ _)
    case f3 => simp; omega
    case f4 => exact (L5.out.alloc _).size
    case f5 =>
      intro v' w6 o6 g6 _
      have L6 := Lib.hid ((L5.out.alloc _).more HSS.out o6 g6)
      clear o6 g6
      go_wp2
      go_ret
      obtain ⟨a7, h7, hs7⟩ := L6.out.src
      exact ⟨_, _, _, _, rfl, L6.out.own, by simp; omega, hs7, L6.out.gr⟩
  · by_cases y01 : y = 1
    · subst y01
      obtain ⟨a', h', hs⟩ := L3.out.src
      have hP3 := heap_alloc_new w3 (.cells #[.int .i64 25, .int .i64 (-1)] 2)
      have hDl := hs.lt
      have KP := Lib.hid (pick_draws D A n c _ _ w3.heap.size 2 [25, -1] (w3.alloc (.cells #[.int .i64 25, .int .i64 (-1)] 2)) (by simp) (by simp) (by omega) (by simp) (by
        intro k v hk
        simp only [World.cell?, hP3]
        match k, hk with
        | 0, hk => cases hk; rfl
        | 1, hk => cases hk; rfl) (hs.alloc _))
      have L4 := Lib.hid (L3.out.alloc (.cells #[.int .i64 25, .int .i64 (-1)] 2))
      unfold DrawsI at KP
      clear hs hP3 hDl
      go_wp2_with fail
      refine KP.out.mono ?_
      rintro e w4 ⟨z, a4, h4, rfl, _, hs4, hg4⟩
      have L5 := Lib.hid (L4.out.next hD hs4 hg4)
      clear hs4 hg4 KP L4
      go_wp2_with (at_builtin; refine wpList_append_p rfl (.tmp 22) (.tmp 27) rfl w.heap.size _ xs rfl ?f1 _ _ 1 [⟨0, z, false⟩] rfl rfl ?f2 ?f3 ?f4 ?f5)
      case f1 => exact (L5.out.alloc _).own
      case f2 => exact rd_pb (pb_new w4 _ _ _)
      case f3 => simp; omega
      case f4 => exact (L5.out.alloc _).size
      case f5 =>
        intro v' w6 o6 g6 _
        have L6 := Lib.hid ((L5.out.alloc _).more HSS.out o6 g6)
        clear o6 g6
        go_wp2
        go_ret
        obtain ⟨a7, h7, hs7⟩ := L6.out.src
        exact ⟨_, _, _, _, rfl, L6.out.own, by simp; omega, hs7, L6.out.gr⟩

    · by_cases y02 : y = 2
      · subst y02
        clear y00 y01
        go_wp2
        go_loopw [3] (fun v wr => ∃ ys : List Pu, ys.length ≤ 61 ∧ Lw w D A n c v ys wr ∧ (∃ Az cz, v = .slice Az ys.length cz)) (fun v _ => 61 - (match v with | .slice _ k _ => k | _ => 0))
        case atStart => exact ⟨xs, by omega, L3.out, _, _, rfl⟩
        case round =>
          obtain ⟨ys, hy, hL, Az, cz, rfl⟩ := hrel
          have LL := Lib.hid hL
          clear hL L3
          by_cases h61 : ys.length < 61
          · have l1 : (ys.length : Int) < 61 := by omega
            go_wp2_with (at_builtin; refine wpList_append_p rfl (.tmp 34) (.tmp 36) rfl w.heap.size _ ys rfl ?f1 _ _ 1 [⟨0, 1, false⟩] rfl rfl ?f2 ?f3 ?f4 ?f5)
            case f1 => exact (LL.out.alloc _).own
            case f2 => exact rd_pb (pb_new wr _ _ _)
            case f3 => simp; omega
            case f4 => exact (LL.out.alloc _).size
            case f5 =>
              intro v' w6 o6 g6 _
              have L6 := Lib.hid ((LL.out.alloc _).more HSS.out o6 g6)
              obtain ⟨A6, c6, hv6, _⟩ := o6.rd
              subst hv6
              clear o6 g6
              go_wp2
              exact ⟨⟨_, by simp; omega, L6.out, _, _, rfl⟩, by simp; omega⟩
          · have l1 : ¬ (ys.length : Int) < 61 := by omega
            go_wp2
            go_ret
            obtain ⟨a7, h7, hs7⟩ := LL.out.src
            exact ⟨_, rfl, _, LL.out.own, hy, ⟨a7, h7, hs7⟩, LL.out.gr⟩
      · go_wp2
        go_ret
        obtain ⟨a7, h7, hs7⟩ := L3.out.src
        exact ⟨_, _, _, _, rfl, L3.out.own, by omega, hs7, L3.out.gr⟩
end Go.Proofs.YtdijnjigamkhjaaGreatDoor
