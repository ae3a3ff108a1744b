/- Walks: a list of pulses is drawn. -/
import Derived.Test.YtdijnjigamkhjaaGreatDoorDc
import Derived.Test.YtdijnjigamkhjaaGreatDoorN
namespace Go.Proofs.YtdijnjigamkhjaaGreatDoor
open Go.RowKit

/-- The call draws a new list of at most k pulses. -/
def DrawsP (k : Nat) (w : World) (D : Nat) (A : Option Addr) (n c : Nat) (e : Ending) (w' : World) : Prop := ∃ v xs at' h', e = .returned v ∧ Own w' w.heap.size v xs ∧ xs.length ≤ k ∧ Src w' D A n c at' h' ∧ w.grownBy w' (some D)
theorem Own.keep' {w W : World} {base : Nat} {v : Value} {xs : List Pu} (h : Own w base v xs) (hk : ∀ g, v.ownBlock = some g → W.heap[g]? = w.heap[g]?) : Own W base v xs := by
  rcases h with h | ⟨G, cap, more, rfl, hG, hr, rest⟩
  · exact .inl h
  · exact .inr ⟨G, cap, more, rfl, hG, hr.keep (hk G rfl), rest⟩
/-- The same, and every pulse is one. -/
def DrawsO (k : Nat) (w : World) (D : Nat) (A : Option Addr) (n c : Nat) (e : Ending) (w' : World) : Prop := ∃ v xs at' h', e = .returned v ∧ Own w' w.heap.size v xs ∧ (xs.length ≤ k ∧ ∀ p ∈ xs, p.ok = true) ∧ Src w' D A n c at' h' ∧ w.grownBy w' (some D)
theorem ok_comp {a h a2 h2 : Int} {b b2 b3 : Bool} (x : Pu.ok ⟨a, h, b⟩ = true) (y : Pu.ok ⟨a2, h2, b2⟩ = true) : Pu.ok ⟨a, h2, b3⟩ = true := by
  unfold Pu.ok at *
  simp only [Bool.and_eq_true] at *
  exact ⟨x.1, y.2⟩
/-- What lies there while one pulse is drawn. -/
def Dg (w : World) (D : Nat) (A : Option Addr) (n c : Nat) (v : Value) (xs : List Pu) (P : Nat) (wx : World) : Prop :=
  ∃ a h b at' h', Pb wx P a h b ∧ Src wx D A n c at' h' ∧ w.grownBy wx (some D) ∧ Own wx w.heap.size v xs ∧ v.ownBlock ≠ some P ∧ w.heap.size ≤ P ∧ P ≠ D ∧ Pu.ok ⟨a, h, b⟩ = true
theorem Own.grownD {w wx w2 : World} {D : Nat} {v : Value} {xs : List Pu} (h : Own wx w.heap.size v xs) (hD : D < w.heap.size) (g : wx.grownBy w2 (some D)) : Own w2 w.heap.size v xs :=
  h.grown g (fun k e e2 => by cases e; have := (h.lt' _ e2).1; omega)
theorem Src.setP {w : World} {D : Nat} {A : Option Addr} {n c at_ h : Nat} (x : Src w D A n c at_ h) {P : Nat} {a hh : Int} {b : Bool} (hP : Pb w P a hh b) (hne : P ≠ D) (i : Nat) (u : Value) : Src (w.setCell ⟨P, i, none⟩ u) D A n c at_ h := by
  refine ⟨(Below.heap_setCell _ _ _ _ (Ne.symm hne)).trans x.s, fun k hk => ?_, x.hat, x.hh, x.hn⟩
  obtain ⟨q, off, y, e, hb, hc, h0, h1⟩ := x.code k hk
  have hq : q ≠ P := by
    rintro rfl
    have hP' : w.heap[q]? = some (.cells #[.int .i64 a, .int .i64 hh, .bool b] 43 (0, 0)) := hP
    simp only [World.cell?, hP'] at hc
    match off + k, hc with
    | 0, hc => simp at hc
    | 1, hc => simp at hc
    | 2, hc => simp at hc
    | _ + 3, hc => simp at hc
  exact ⟨q, off, y, e, by simpa [World.setCell] using hb, (World.cell?_of_block (w := w) (Below.heap_setCell w _ _ q hq)).trans hc, h0, h1⟩
/-- The source later on: the code lies as it lay. -/
theorem Src.far {w w2 : World} {D : Nat} {A : Option Addr} {n c a0 h0 at' h' : Nat} (x : Src w D A n c a0 h0) (hg : w.grownBy w2 (some D)) (hs : w2.heap[D]? = some (.cells #[.slice A n c, .int .i64 at', .int .u64 h'] 63 (0, 0))) (hat : at' ≤ n) (hh : h' < 18446744073709551616) : Src w2 D A n c at' h' := by
  refine ⟨hs, fun k hk => ?_, hat, hh, x.hn⟩
  obtain ⟨b, off, y, e, hbD, hb, hc, h0, h1⟩ := x.other hk
  exact ⟨b, off, y, e, Nat.lt_of_lt_of_le hb hg.size, (World.cell?_of_block (hg.block b hb (by simpa using hbD))).trans hc, h0, h1⟩
/-- The same, with what lies there named. -/
structure Dgs (w : World) (D : Nat) (A : Option Addr) (n c : Nat) (v : Value) (xs : List Pu) (P : Nat) (a h : Int) (b : Bool) (at' h' : Nat) (wx : World) : Prop where
  pb : Pb wx P a h b
  src : Src wx D A n c at' h'
  gr : w.grownBy wx (some D)
  own : Own wx w.heap.size v xs
  ne : v.ownBlock ≠ some P
  le : w.heap.size ≤ P
  pd : P ≠ D
  okp : Pu.ok ⟨a, h, b⟩ = true
theorem Dgs.dg {w wx : World} {D : Nat} {A : Option Addr} {n c P at' h' : Nat} {v : Value} {xs : List Pu} {a h : Int} {b : Bool} (x : Dgs w D A n c v xs P a h b at' h' wx) : Dg w D A n c v xs P wx :=
  ⟨a, h, b, at', h', x.pb, x.src, x.gr, x.own, x.ne, x.le, x.pd, x.okp⟩
theorem Dgs.set {w wx : World} {D : Nat} {A : Option Addr} {n c P at' h' : Nat} {v : Value} {xs : List Pu} {a h a2 h2 : Int} {b b2 : Bool} (x : Dgs w D A n c v xs P a h b at' h' wx) {i : Nat} {u : Value}
    (hP : Pb (wx.setCell ⟨P, i, none⟩ u) P a2 h2 b2) (hok : Pu.ok ⟨a2, h2, b2⟩ = true) : Dgs w D A n c v xs P a2 h2 b2 at' h' (wx.setCell ⟨P, i, none⟩ u) :=
  ⟨hP, x.src.setP x.pb x.pd i u, ⟨x.gr.os, x.gr.tape, x.gr.output, by have := x.gr.size; simpa [World.setCell] using this, fun k hk hne => (Below.heap_setCell _ _ _ _ (by have := x.le; simp; omega)).trans (x.gr.block k hk hne)⟩,
    x.own.keep' (fun g hg => Below.heap_setCell _ _ _ _ (fun e => x.ne (by rw [hg, e]))), x.ne, x.le, x.pd, hok⟩
theorem Dgs.next {w wx w2 : World} {D : Nat} {A : Option Addr} {n c P at' h' a3 h3 : Nat} {v : Value} {xs : List Pu} {a h : Int} {b : Bool} (x : Dgs w D A n c v xs P a h b at' h' wx) (hD : D < w.heap.size) (hs : Src w2 D A n c a3 h3) (hg : wx.grownBy w2 (some D)) : Dgs w D A n c v xs P a h b a3 h3 w2 :=
  ⟨x.pb.keep (hg.block P x.pb.lt (by have := x.pd; simp; omega)), hs, grown_trans x.gr hg, x.own.grownD hD hg, x.ne, x.le, x.pd, x.okp⟩
set_option maxRecDepth 100000 in
set_option maxHeartbeats 4000000 in
theorem l05Draw_any (D : Nat) (A : Option Addr) (n c at_ h : Nat) (m : Nat) (w : World) (hm : m ≤ 60) (hS : Src w D A n c at_ h) :
    Calls Tryz.prog 42 #[.pointer (some ⟨D, 0, none⟩), .int .i64 m] w (DrawsO m w D A n c) := by
  have hD := hS.lt
  have H0 := Lib.hid (heap_alloc_new w (.cells #[] 43))
  have K0 := Lib.hid (next_draws D A n c at_ h ((m : Int) + 1) (w.alloc (.cells #[] 43)) (by omega) (by omega) (hS.alloc _))
  have G0 := Lib.hid (World.grownBy_alloc w (.cells #[] 43) (some D))
  have hm1 : (m : Int) ≤ 60 := by omega
  have hm0 : (0 : Int) ≤ (m : Int) := by omega
  have HSS := Lib.hid hS
  clear hS
  unfold DrawsO DrawsI at *
  go_enter Tryz.func42, Tryz.ntmps42
  go_wp2_with fail
  refine K0.out.mono ?_
  rintro e w1 ⟨x, a1, h1, rfl, ⟨x0, x1⟩, hs1, hg1⟩
  have O1 : Own w1 w.heap.size (.slice (some ⟨w.heap.size, 0, none⟩) 0 0) [] := own_empty (Nat.le_refl _) ((hg1.block _ (by simp) (by simp; omega)).trans H0.out)
  have G1 := grown_trans G0.out hg1
  obtain ⟨i0, hx, hi0⟩ : ∃ i0 : Nat, x = (i0 : Int) ∧ i0 ≤ m := ⟨x.toNat, by omega, by omega⟩
  subst hx
  have HO := Lib.hid O1
  have HG := Lib.hid G1
  have HS := Lib.hid hs1
  clear O1 G1 hs1 hg1 K0 H0 G0
  go_wp2
  go_loopw [5, 6] (fun v i wr => ∃ (xs : List Pu) (k a' h' : Nat), i = .int .i64 k ∧ (xs.length + k ≤ m ∧ ∀ p ∈ xs, p.ok = true) ∧ Own wr w.heap.size v xs ∧ Src wr D A n c a' h' ∧ w.grownBy wr (some D)) (fun _ i _ => (intOf i).toNat)
  case atStart => exact ⟨[], i0, _, _, rfl, ⟨by simpa using hi0, fun p hp => (by cases hp)⟩, HO.out, HS.out, HG.out⟩
  case round =>
    obtain ⟨xs, k, a', h', rfl, ⟨hlen, hok⟩, hO, hs, hG⟩ := hrel
    have HOK := Lib.hid hok
    clear hok
    clear HO HG HS
    by_cases hk : 0 < k
    · have k0 : (0 : Int) < (k : Int) := by omega
      have k1 : (k : Int) ≤ 60 := by omega
      have HL := Lib.hid hlen
      have HO := Lib.hid hO
      have HG := Lib.hid hG
      clear hlen hO hG
      go_wp2_with fail
      refine (next_draws D A n c _ _ _ _ (by omega) (by omega) hs).mono ?_
      rintro e w2 ⟨y1, a2, h2, rfl, ⟨y10, y11⟩, hs2, hg2⟩
      go_wp2_with fail
      refine (next_draws D A n c _ _ _ _ (by omega) (by omega) hs2).mono ?_
      rintro e w3 ⟨y2, a3, h3, rfl, ⟨y20, y21⟩, hs3, hg3⟩
      go_wp2_with fail
      refine (next_draws D A n c _ _ _ _ (by omega) (by omega) hs3).mono ?_
      rintro e w4 ⟨y3, a4, h4, rfl, ⟨y30, y31⟩, hs4, hg4⟩
      go_wp2_with fail
      refine (next_draws D A n c _ _ _ _ (by omega) (by omega) hs4).mono ?_
      rintro e w5 ⟨y4, a5, h5, rfl, ⟨y40, y41⟩, hs5, hg5⟩
      have hg25 := grown_trans (grown_trans hg2 hg3) (grown_trans hg4 hg5)
      clear hs hs2 hs3 hs4 hg2 hg3 hg4 hg5
      have hP5 := heap_alloc_new w5 (.cells #[.int .i64 y2, .int .i64 y3, .int .i64 y4] 2)
      have hDl := hs5.lt
      have KP := Lib.hid (pick_draws D A n c _ _ w5.heap.size 3 [y2, y3, y4] (w5.alloc (.cells #[.int .i64 y2, .int .i64 y3, .int .i64 y4] 2)) (by simp) (by simp) (by omega) (by simp) (by
        intro k v hk
        simp only [World.cell?, hP5]
        match k, hk with
        | 0, hk => cases hk; rfl
        | 1, hk => cases hk; rfl
        | 2, hk => cases hk; rfl) (hs5.alloc _))
      have HG5 := Lib.hid (grown_alloc hg25 (.cells #[.int .i64 y2, .int .i64 y3, .int .i64 y4] 2))
      clear hP5 hs5 hg25
      go_wp2_with fail
      refine KP.out.mono ?_
      rintro e w6 ⟨y5, a6, h6, rfl, hy5, hs6, hg6⟩
      have HY := Lib.hid (show ∀ bb, Pu.ok ⟨y1, y5, bb⟩ = true from fun bb => by
        simp only [List.mem_cons, List.not_mem_nil, or_false] at hy5
        unfold Pu.ok inB
        simp
        omega)
      clear hy5
      go_wp2_with fail
      refine (next_draws D A n c _ _ _ _ (by omega) (by omega) hs6).mono ?_
      rintro e w7 ⟨y6, a7, h7, rfl, ⟨y60, y61⟩, hs7, hg7⟩
      have G7 := grown_trans (grown_trans HG5.out hg6) hg7
      have GW7 := Lib.hid (grown_trans HG.out G7)
      have O7 := Lib.hid (HO.out.grownD hD G7)
      have HDg := Lib.hid (show Dgs w D A n c u5 xs w7.heap.size y1 y5 (y6 == 0) a7 h7 (w7.alloc (.cells #[.int .i64 y1, .int .i64 y5, .bool (y6 == 0)] 43)) from
        ⟨pb_new _ _ _ _, hs7.alloc _, grown_alloc GW7.out _, O7.out.below ((Below.refl _ _).alloc (Nat.le_refl _) _), fun e => by have := (O7.out.lt' _ e).2; omega, GW7.out.size, by have := GW7.out.size; omega, HY.out _⟩)
      clear hs6 hg6 hg7 KP HG5 hs7 G7
      obtain ⟨Av, cp, hv, _⟩ := HO.out.rd
      subst hv
      go_upto_region 6 with fail
      go_cut [39] (fun t wx => ∃ tb, t = .bool tb ∧ (tb = true → xs.length ≠ 0) ∧ Dg w D A n c (.slice Av xs.length cp) xs w7.heap.size wx)
      case first =>
        by_cases hxs : xs.length = 0
        · have l0 : ¬ (0 : Int) < (xs.length : Int) := by omega
          clear hxs
          go_wp2_with fail
          go_meet
          exact ⟨false, rfl, fun h => (by cases h), HDg.out.dg⟩
        · have l0 : (0 : Int) < (xs.length : Int) := by omega
          have HX := Lib.hid hxs
          clear hxs
          go_wp2_with fail
          refine (next_draws D A n c _ _ _ _ (by omega) (by omega) HDg.out.src).mono ?_
          rintro e w8 ⟨x7, a8, h8, rfl, ⟨x70, x71⟩, hs8, hg8⟩
          have H8 := Lib.hid (HDg.out.next hD hs8 hg8)
          clear hs8 hg8
          go_wp2_with fail
          go_meet
          exact ⟨_, rfl, fun _ => HX.out, H8.out.dg⟩
      case rest =>
        obtain ⟨tb, rfl, htb, hdg⟩ := hcut
        have HTB := Lib.hid htb
        have HDD := Lib.hid hdg
        clear htb hdg
        go_upto_if 39 with fail
        go_cut [] (fun wx => Dg w D A n c (.slice Av xs.length cp) xs w7.heap.size wx)
        case first =>
          cases tb with
          | false =>
            go_wp2_with fail
            go_meet
            exact HDD.out
          | true =>
            obtain ⟨a, hh, b, a8, h8, q1, q2, q3, q4, q5, q6, q7, q8⟩ := HDD.out
            have H8 := Lib.hid (show Dgs w D A n c (.slice Av xs.length cp) xs w7.heap.size a hh b a8 h8 wc from ⟨q1, q2, q3, q4, q5, q6, q7, q8⟩)
            clear q1 q2 q3 q4 q5 q6 q7 q8
            obtain ⟨k', hk'⟩ : ∃ k', xs.length = k' + 1 := ⟨xs.length - 1, by have := HTB.out rfl; omega⟩
            obtain ⟨p, hp⟩ : ∃ p, xs[k']? = some p := ⟨_, List.getElem?_eq_getElem (by omega)⟩
            obtain ⟨A', c', e', r'⟩ := H8.out.own.rd
            cases e'
            obtain ⟨q, off, rfl, hql, d0, d1, d2⟩ := r' k' p hp
            obtain ⟨g0, g1, g2⟩ := H8.out.pb.cells
            have f0 := H8.out.pb.frozen 0
            have f1 := H8.out.pb.frozen 1
            have f2 := H8.out.pb.frozen 2
            have hkk : (k' : Int) ≤ 60 := by have := HL.out; omega
            have he : (xs.length : Int) - 1 = (k' : Int) := by omega
            have hlt : (k' : Int) < (xs.length : Int) := by omega
            have hpo := HOK.out p (List.mem_of_getElem? hp)
            clear r' hp hk'
            go_wp2_with fail
            have S1 := Lib.hid (((H8.out.set (i := 0) (H8.out.pb.set0 p.a) (ok_comp (b := p.b) (b2 := p.b) hpo H8.out.okp)).set (i := 1) ((H8.out.pb.set0 p.a).set1 p.h) (ok_comp (b := p.b) (b2 := p.b) hpo hpo)).set (i := 2) (((H8.out.pb.set0 p.a).set1 p.h).set2 p.b) (ok_comp (b := p.b) (b2 := p.b) hpo hpo))
            refine (next_draws D A n c _ _ _ _ (by omega) (by omega) S1.out.src).mono ?_
            rintro e w9 ⟨x9, a9, h9, rfl, ⟨x90, x91⟩, hs9, hg9⟩
            have S9 := Lib.hid (S1.out.next hD hs9 hg9)
            obtain ⟨g0, g1, g2⟩ := S9.out.pb.cells
            have f2 := S9.out.pb.frozen 2
            clear hs9 hg9 S1
            by_cases h90 : x9 = 0
            · subst h90
              go_wp2_with fail
              go_meet
              exact (S9.out.set (i := 2) (S9.out.pb.set2 _) (ok_comp S9.out.okp S9.out.okp)).dg
            · go_wp2_with fail
              go_meet
              exact S9.out.dg
        case rest =>
          obtain ⟨a, hh, b, a8, h8, q1, q2, q3, q4, q5, q6, q7, q8⟩ := hcut
          have H8 := Lib.hid (show Dgs w D A n c (.slice Av xs.length cp) xs w7.heap.size a hh b a8 h8 wc from ⟨q1, q2, q3, q4, q5, q6, q7, q8⟩)
          clear q1 q2 q3 q4 q5 q6 q7 q8
          obtain ⟨g0, g1, g2⟩ := H8.out.pb.cells
          obtain ⟨j0, hi, hz0, hz1, hz2⟩ := info_parts info43
          have HI := Lib.hid hi; clear hi
          have HZ0 := Lib.hid hz0; clear hz0
          have HZ1 := Lib.hid hz1; clear hz1
          have HZ2 := Lib.hid hz2; clear hz2
          have hsz := H8.out.gr.size
          have hl60 : xs.length ≤ 59 := by have := HL.out; omega
          go_wp2_with (at_builtin; refine wpList_append_own _ rfl _ _ 24 rfl w.heap.size 43 j0 (.agg #[.int .i64 0, .int .i64 0, .bool false]) 3 24 Tryz.underlying24 HI.out HZ0.out HZ1.out HZ2.out rfl (by decide) _ _ _ rfl (H8.out.own.below ((Below.refl _ _).alloc (Nat.le_refl _) _)).row ⟨wc.heap.size, 0, none⟩ 1 1 [.int .i64 a, .int .i64 hh, .bool b] rfl rfl ?c1 ?c2 ?c3 ?c4 ?c5 ?_)
          case c1 =>
            intro j u hj
            have hP := (pb_new wc a hh b).cells
            rw [addr_plus, Nat.zero_add]
            match j, hj with
            | 0, hj => cases hj; exact hP.1
            | 1, hj => cases hj; exact hP.2.1
            | 2, hj => cases hj; exact hP.2.2
          case c2 =>
            intro u hu
            simp only [List.mem_cons, List.not_mem_nil, or_false] at hu
            rcases hu with rfl | rfl | rfl <;> rfl
          case c3 => unfold maxLen; omega
          case c4 => omega
          case c5 => simp; omega
          intro v' w9 hown' hgrow _
          have hO9 := Own.append (ps := xs) (p := ⟨a, hh, b⟩) hown'
          have hA := (H8.out.own.below ((Below.refl _ _).alloc (Nat.le_refl _) (.cells #[.int .i64 a, .int .i64 hh, .bool b] 43)))
          have hvD : (Value.slice Av xs.length cp).ownBlock ≠ some D := fun e => by have := (hA.lt' _ e).1; omega
          have hgD : wc.grownBy w9 ((Value.slice Av xs.length cp).ownBlock) := ⟨hgrow.os, hgrow.tape, hgrow.output, Nat.le_trans (by simp) hgrow.size, fun i hi hne => (hgrow.block i (by simp; omega) hne).trans (Below.heap_alloc _ _ _ hi)⟩
          have G9 := Lib.hid (show w.grownBy w9 (some D) from ⟨hgD.os.trans H8.out.gr.os, hgD.tape.trans H8.out.gr.tape, hgD.output.trans H8.out.gr.output, Nat.le_trans H8.out.gr.size hgD.size, fun i hi hne => (hgD.block i (Nat.lt_of_lt_of_le hi H8.out.gr.size) (fun e => by have := (H8.out.own.lt' _ e.symm).1; omega)).trans (H8.out.gr.block i hi hne)⟩)
          have S9 := Lib.hid (HSS.out.far G9.out ((hgD.block D H8.out.src.lt (fun e => hvD e.symm)).trans H8.out.src.s) H8.out.src.hat H8.out.src.hh)
          have O9 := Lib.hid hO9
          clear hown' hgrow hO9 hA hgD
          go_wp2
          exact ⟨⟨xs ++ [⟨a, hh, b⟩], k - 1, _, _, by rw [show ((k - 1 : Nat) : Int) = (k : Int) - 1 by omega], ⟨by have := HL.out; simp; omega, fun p hp => by
            rcases List.mem_append.1 hp with h | h
            · exact HOK.out p h
            · rw [List.mem_singleton.1 h]; exact H8.out.okp⟩, O9.out, S9.out, G9.out⟩, by simp [intOf]; omega⟩
    · obtain rfl : k = 0 := by omega
      have HR := Lib.hid (show ∃ ys : List Pu, (ys.length ≤ m ∧ ∀ p ∈ ys, p.ok = true) ∧ Own wr w.heap.size u5 ys from ⟨xs, ⟨by omega, HOK.out⟩, hO⟩)
      have HS := Lib.hid hs
      have HG := Lib.hid hG
      clear hO hs hG
      go_wp2
      go_ret
      obtain ⟨ys, hy, ho⟩ := HR.out
      exact ⟨_, ys, _, _, rfl, ho, hy, HS.out, HG.out⟩
end Go.Proofs.YtdijnjigamkhjaaGreatDoor
