/- Walks: the program's tables of a sequence: the loop. -/
import Derived.Test.YtkfahacnanlnfaaZFm
namespace Go.Proofs.Ytkfahacnanlnfaa
open Go.RowKit Ieee
attribute [local go_sem ↓] Go.wp_at_zero Go.wp_at_succ

theorem ok_axis {xs : List Pl.Pu} (hs : Pl.isSeq xs = true) {k : Nat} {p : Pl.Pu} (h : xs[k]? = some p) : p.a = 0 ∨ p.a = 1 ∨ p.a = 2 := by
  unfold Pl.isSeq at hs
  simp only [Bool.and_eq_true, decide_eq_true_eq, List.all_eq_true] at hs
  have := hs.2 p (List.mem_of_getElem? h)
  unfold Pl.Pu.ok Pl.inB at this
  simp only [Bool.and_eq_true, decide_eq_true_eq] at this
  omega
theorem Tb.cells {w wx : World} {B : Nat} {m : Int} {xs : List Pl.Pu} {k g cap : Nat} (h : Tb w B m xs k (.slice (some ⟨g, 0, none⟩) (k + 1) cap) wx) :
    wx.cell? ⟨g, k * 4, none⟩ = some (.complex .f32 (iT m xs k).a (iT m xs k).b) ∧ wx.cell? ⟨g, k * 4 + 1, none⟩ = some (.complex .f32 (iT m xs k).c (iT m xs k).d) ∧ wx.cell? ⟨g, k * 4 + 2, none⟩ = some (.complex .f32 (iT m xs k).e (iT m xs k).f) ∧ wx.cell? ⟨g, k * 4 + 3, none⟩ = some (.complex .f32 (iT m xs k).g (iT m xs k).h) := by
  obtain ⟨g', cap', e, _, _, _, h4⟩ := own_tab h.own (show k < k + 1 by omega)
  cases e
  exact h4
theorem Tb.neB {w wx : World} {B : Nat} {m : Int} {xs : List Pl.Pu} {k : Nat} {v : Value} (h : Tb w B m xs k v wx) : wx.heap.size ≠ B := Nat.ne_of_gt (Nat.lt_of_lt_of_le h.hB h.hg.size)
theorem Tb.put_own {wx : World} {base n : Nat} {e : TypeId} {size : Nat} {v : Value} {xs : List Value} {T : Nat} (h : wx.ownsRow base e size v n xs) (hv : v.ownBlock ≠ some T) (u0 u1 u2 u3 : Value) :
    World.ownsRow ((((wx.setCell ⟨T, 0, none⟩ u0).setCell ⟨T, 1, none⟩ u1).setCell ⟨T, 2, none⟩ u2).setCell ⟨T, 3, none⟩ u3) base e size v n xs := by
  refine ownsRow_keep h (fun g _ _ e => ?_)
  have hne : g ≠ T := fun e2 => hv (by rw [e, e2])
  exact (Below.heap_setCell _ _ _ _ hne).trans ((Below.heap_setCell _ _ _ _ hne).trans ((Below.heap_setCell _ _ _ _ hne).trans (Below.heap_setCell _ _ _ _ hne)))
/-- A table appended. -/
theorem Tb.append {w wx w3 : World} {B : Nat} {m : Int} {xs : List Pl.Pu} {k : Nat} {v v' : Value} {W : T8} (hW : iT m xs (k + 1) = W) (ho : wx.ownsRow w.heap.size 51 4 v (k + 1) (flT m xs (k + 1))) (hc : CalcAt wx B (iC m xs (k + 1))) (hg : w.grownBy wx (some B)) (hB : B < w.heap.size)
    (hown : w3.ownsRow w.heap.size 51 4 v' (k + 1 + 1) (flT m xs (k + 1) ++ [.complex .f32 W.a W.b, .complex .f32 W.c W.d, .complex .f32 W.e W.f, .complex .f32 W.g W.h])) (hgrow : wx.grownBy w3 v.ownBlock) : Tb w B m xs (k + 1) v' w3 := by
  have hne : v.ownBlock ≠ some B := fun e => by have := (own_block_lt ho e).1; omega
  refine ⟨?_, ?_, ⟨hgrow.os.trans hg.os, hgrow.tape.trans hg.tape, hgrow.output.trans hg.output, Nat.le_trans hg.size hgrow.size, fun k' h1 h2 => ?_⟩, hB⟩
  · show World.ownsRow w3 _ _ _ _ _ (flT m xs (k + 1) ++ t4 (iT m xs (k + 1)))
    rw [hW]; exact hown
  · exact (hgrow.block B hc.lt (fun e => hne e.symm)).trans hc
  · refine (hgrow.block k' (Nat.lt_of_lt_of_le h1 hg.size) (fun e => ?_)).trans (hg.block k' h1 h2)
    have := (own_block_lt ho e.symm).1
    omega
set_option maxRecDepth 100000 in
set_option maxHeartbeats 4000000 in
theorem tables_any (B : Nat) (A : Option Addr) (c : Nat) (xs : List Pl.Pu) (m : Int) (w : World) (h : CalcAt w B 0) (hs : Pl.isSeq xs = true) (hr : Pl.Rd w A xs) (hA : ∀ b off, A = some ⟨b, off, none⟩ → b ≠ B) (hm : 0 ≤ m) (hm2 : m ≤ 9223372036854775807) :
    Calls Try.prog 61 #[.pointer (some ⟨B, 0, none⟩), .slice A xs.length c, .int .i64 m] w fun e w' => ∃ v, e = .returned v ∧ Tb w B m xs xs.length v w' := by
  obtain ⟨hl, hh⟩ := hs_of hs
  have HS := Lib.hid hs; clear hs
  have HH := Lib.hid hh; clear hh
  have HR := Lib.hid hr; clear hr
  have HA := Lib.hid hA; clear hA
  have hB := h.lt
  have HC := Lib.hid h; clear h
  obtain ⟨i0, hi, hz0, hz1, hz2⟩ := info_parts info51
  have HI := Lib.hid hi; clear hi
  have HZ0 := Lib.hid hz0; clear hz0
  have HZ1 := Lib.hid hz1; clear hz1
  have HZ2 := Lib.hid hz2; clear hz2
  go_enter Try.func61, Try.ntmps61
  go_wp2_with fail
  refine (implUnit_any _).mono ?_
  rintro e w1 ⟨rfl, b1⟩
  have T1 : Tb w B m xs 0 (.slice (some ⟨w1.heap.size, 0, none⟩) 1 1) (w1.alloc (.cells #[.complex .f32 1065353216 0, .complex .f32 0 0, .complex .f32 0 0, .complex .f32 1065353216 0] 51)) := by
    have b2 := b1.alloc b1.size (.cells #[.complex .f32 1065353216 0, .complex .f32 0 0, .complex .f32 0 0, .complex .f32 1065353216 0] 51)
    refine ⟨⟨by rw [flT_length], .inr ⟨w1.heap.size, 1, _, rfl, b1.size, heap_alloc_new w1 _, Nat.le_refl _, by decide, rfl, ?_⟩⟩, HC.out.below b2 HC.out.lt, toGrown b2 _, HC.out.lt⟩
    have e0 : iT m xs 0 = czT unitT := rfl
    show _ = [] ++ t4 (iT m xs 0)
    rw [e0, unit_cz]
    rfl
  have HT := Lib.hid T1; clear T1 b1
  go_wp2
  go_loopw [7, 15] (fun v i wr => ∃ k : Nat, k ≤ xs.length ∧ i = .int .i64 k ∧ Tb w B m xs k v wr) (fun _ i _ => xs.length - (intOf i).toNat)
  case atStart => exact ⟨0, Nat.zero_le _, rfl, HT.out⟩
  case round =>
    obtain ⟨k, hk, rfl, hT⟩ := hrel
    clear HT
    by_cases hlt : k < xs.length
    · obtain ⟨p, hp⟩ : ∃ p, xs[k]? = some p := ⟨_, List.getElem?_eq_getElem hlt⟩
      have hRd := Rd_grown HR.out hT.hg HA.out
      obtain ⟨b, off, rfl, hbl, p0, p1, p2⟩ := hRd k p hp
      obtain ⟨h', hh', hh24⟩ := HH.out k p hp
      have hax := ok_axis HS.out hp
      have hlim := sT_lim (m := m) HS.out hk
      have hpu := plT_pur p (by rw [hh']; simpa using hh24)
      obtain ⟨n1, n2⟩ := step_next (m := m) hp
      obtain ⟨pa, ph, pb⟩ := p
      dsimp only at hh' p0 p1 p2 hax
      subst hh'
      obtain ⟨P, hP⟩ : ∃ P, fzT (iC m xs k) (plT ⟨pa, (h' : Int), pb⟩) = P := ⟨_, rfl⟩
      obtain ⟨V, hV⟩ : ∃ V, iT m xs k = V := ⟨_, rfl⟩
      have hV2 : fzT (iC m xs k) (sT m xs k) = V := by rw [← hV, iT_fz]
      obtain ⟨U, hU⟩ : ∃ U, fzT (iC m xs k) (tmT (plT ⟨pa, (h' : Int), pb⟩) (sT m xs k)) = U := ⟨_, rfl⟩
      have KP := Lib.hid (fun w hw => tableOf_val B (iC m xs k) pa h' pb w P hP hw hax hh24)
      have KT := Lib.hid (fun w hw => product_val B (iC m xs k) (plT ⟨pa, (h' : Int), pb⟩) (sT m xs k) P V U w hP hV2 hU hw hpu hlim (by omega) (by omega))
      have hUl : limT ((k : Int) + 1 + 1) (tmT (plT ⟨pa, (h' : Int), pb⟩) (sT m xs k)) := tmT_lim hpu hlim (by omega) (by omega)
      obtain ⟨g, cap, hv, hg, hgl, hcap, v0, v1, v2, v3⟩ := own_tab hT.own (show k < k + 1 by omega)
      rw [hV] at v0 v1 v2 v3
      have i0' : (0 : Int) ≤ (k : Int) := by omega
      have i1 : (k : Int) < (xs.length : Int) := by omega
      have i2 : (k : Int) < ((k : Int) + 1) := by omega
      have N1 := Lib.hid n1; have N2 := Lib.hid n2; clear n1 n2
      have HUl := Lib.hid hUl; clear hUl
      have HQ := Lib.hid (And.intro hP (And.intro hV (And.intro hV2 hU)))
      clear hP hV hV2 hU hlim hpu
      have T0 := Lib.hid hT; clear hT
      have HP := Lib.hid hp; clear hp
      subst hv
      have S0 := Lib.hid (show Sx w B m xs k (.slice (some ⟨g, 0, none⟩) (k + 1) cap) wr.heap.size pa (h' : Int) pb (wr.alloc (.cells #[.int .i64 pa, .int .i64 (h' : Int), .bool pb] 80)) from ⟨T0.out.alloc _, puAt_new _ _ _ _ _, by have := T0.out.hg.size; omega⟩)
      generalize hw4 : wr.alloc (.cells #[.int .i64 pa, .int .i64 (h' : Int), .bool pb] 80) = w4 at S0
      have hT4 : w4.heap.size ≠ B := Nat.ne_of_gt (Nat.lt_of_lt_of_le S0.out.tb.hB S0.out.tb.hg.size)
      obtain ⟨q0, q1, q2⟩ := S0.out.pu.cells
      obtain ⟨r0, r1, r2, r3⟩ := S0.out.tb.cells
      rw [HQ.out.2.1] at r0 r1 r2 r3
      have m1 := Nat.ne_of_gt S0.out.pu.lt
      have m2 := Nat.ne_of_lt S0.out.pu.lt
      have m3 := Nat.ne_of_gt (World.block_lt_of_cell? w4 ⟨g, k * 4, none⟩ r0)
      have m4 := Nat.ne_of_lt (World.block_lt_of_cell? w4 ⟨g, k * 4, none⟩ r0)
      dsimp only at m3 m4
      go_upto_region 5 with fail
      clear hw4 v0 v1 v2 v3 p0 p1 p2
      go_cut [10] (fun s10 wx => Cp w B m xs k (.slice (some ⟨g, 0, none⟩) (k + 1) cap) U s10 wx)
      case first =>
        go_region_held3 (fun w' => w'.cell? ⟨wr.heap.size, 0, none⟩ = some (.int .i64 pa) ∧ w'.cell? ⟨wr.heap.size, 1, none⟩ = some (.int .i64 (h' : Int)) ∧ w'.cell? ⟨wr.heap.size, 2, none⟩ = some (.bool pb) ∧ w'.cell? ⟨g, k * 4, none⟩ = some (.complex .f32 V.a V.b) ∧ w'.cell? ⟨g, k * 4 + 1, none⟩ = some (.complex .f32 V.c V.d) ∧ w'.cell? ⟨g, k * 4 + 2, none⟩ = some (.complex .f32 V.e V.f) ∧ w'.cell? ⟨g, k * 4 + 3, none⟩ = some (.complex .f32 V.g V.h)) (go_keep)
          (first
            | (go_at_call 91; refine (KP.out _ ?_).mono ?_; (first | exact S0.out.drew.tb.hc | exact (S0.out.drew.alloc _).tb.hc); rintro e' w5 ⟨rfl, hc, hg⟩; (first | (have S5 := Lib.hid (S0.out.drew.call hc hg)) | (have S5 := Lib.hid ((S0.out.drew.alloc _).call hc hg); have Z5 := Lib.hid (show Row4 w5 w4.heap.size (.complex .f32 0 0) (.complex .f32 0 0) (.complex .f32 0 0) (.complex .f32 0 0) from Row4.grown (row4_new w4.drew (.complex .f32 0 0) (.complex .f32 0 0) (.complex .f32 0 0) (.complex .f32 0 0) 51) hg hT4))); clear hc hg; have hT5 := S5.out.tb.neB; obtain ⟨x0, x1, x2⟩ := S5.out.pu.cells; have y0 := S5.out.tb.cells.1; have y1 := S5.out.tb.cells.2.1; have y2 := S5.out.tb.cells.2.2.1; have y3 := S5.out.tb.cells.2.2.2; rw [HQ.out.2.1] at y0 y1 y2 y3; have m5 := Nat.ne_of_gt S5.out.pu.lt; have m6 := Nat.ne_of_lt S5.out.pu.lt; have m7 := Nat.ne_of_gt (World.block_lt_of_cell? w5 ⟨g, k * 4, none⟩ y0); have m8 := Nat.ne_of_lt (World.block_lt_of_cell? w5 ⟨g, k * 4, none⟩ y0); dsimp only at m7 m8)
            | (go_at_call 90; refine (KT.out _ ?_).mono ?_; (first | exact S5.out.tb.hc | exact (S5.out.alloc _).tb.hc); rintro e' w6 ⟨rfl, hc, hg⟩; (first | (have S6 := Lib.hid (S5.out.call hc hg); try (have Z6 := Lib.hid (Row4.grown Z5.out hg hT4))) | (have S6 := Lib.hid ((S5.out.alloc _).call hc hg); have Z6 := Lib.hid (Row4.grown (row4_new w5 (.complex .f32 0 0) (.complex .f32 0 0) (.complex .f32 0 0) (.complex .f32 0 0) 51) hg hT5))); clear hc hg; obtain ⟨x0, x1, x2⟩ := S6.out.pu.cells; have y0 := S6.out.tb.cells.1; have y1 := S6.out.tb.cells.2.1; have y2 := S6.out.tb.cells.2.2.1; have y3 := S6.out.tb.cells.2.2.2; rw [HQ.out.2.1] at y0 y1 y2 y3; try (obtain ⟨z0, z1, z2, z3⟩ := Z6.out.cells; have g0 := Z6.out.frozen 0; have g1 := Z6.out.frozen 1; have g2 := Z6.out.frozen 2; have g3 := Z6.out.frozen 3)))
        all_goals
          go_wp2_with fail
          go_meet
          first
          | (have _ := Z5; exact Cp.of_put S6.out.tb Z6.out S0.out.tb rfl)
          | (have _ := Z6; exact Cp.of_put S6.out.tb Z6.out S5.out.tb rfl)
          | exact Cp.of_new S6.out.tb
      case rest =>
        obtain ⟨T, rfl, hTab, hTb, hT1, hT2⟩ := hcut
        clear q0 q1 q2 r0 r1 r2 r3 m1 m2 m3 m4 hT4 S0
        have BB := Lib.hid hTb.hB
        have hBT : B ≠ T := by have := hTb.hB; omega
        obtain ⟨c0, c1, c2, c3⟩ := hTab.cells
        have g0 := hTab.frozen 0
        have g1 := hTab.frozen 1
        have g2 := hTab.frozen 2
        have g3 := hTab.frozen 3
        have TT := Lib.hid hTab; clear hTab
        have TB := Lib.hid hTb; clear hTb
        have w1' : IntKind.i64.wrap ((k : Int) + 1) = (k : Int) + 1 := Pl.wrap_small' _ (by omega) (by omega)
        by_cases hc0 : 0 < m ∧ ((k : Int) + 1) % m = 0
        · obtain ⟨hm0, hr0⟩ := hc0
          have hr1 : (((k : Int) + 1) % m == 0) = true := by rw [hr0]; rfl
          have w2' : IntKind.i64.wrap (((k : Int) + 1) % m) = ((k : Int) + 1) % m := by rw [hr0]; rfl
          have hmne : m ≠ 0 := by omega
          obtain ⟨e1, e2⟩ := N1.out ⟨hm0, hr0⟩
          obtain ⟨W, hW⟩ : ∃ W, iT m xs (k + 1) = W := ⟨_, rfl⟩
          rw [hW, e2] at e1
          have KR := Lib.hid (fun w hw => renewTurn_val B (iC m xs k) (iC m xs (k + 1)) (tmT (plT ⟨pa, (h' : Int), pb⟩) (sT m xs k)) U W w HQ.out.2.2.2 e2 e1 hw HUl.out (by omega) (by omega))
          have HWW := Lib.hid hW; clear hW e1 e2
          go_wp2_with fail
          refine (KR.out _ TB.out.hc).mono ?_
          rintro e' w7 ⟨rfl, hc, hg⟩
          have hR7 := TT.out.grown hg (fun e => hBT e.symm)
          have h4 := high4 hc (TB.out.hg.trans hg) hBT hT1 (.complex .f32 W.a W.b) (.complex .f32 W.c W.d) (.complex .f32 W.e W.f) (.complex .f32 W.g W.h)
          have hO := ownsRow_keep TB.out.own (fun g' h5 h6 _ => hg.block g' h6 (fun e => by have := Option.some.inj e; have := BB.out; omega))
          have hO8 := Tb.put_own hO hT2 (.complex .f32 W.a W.b) (.complex .f32 W.c W.d) (.complex .f32 W.e W.f) (.complex .f32 W.g W.h)
          have hR8 := hR7.put (.complex .f32 W.a W.b) (.complex .f32 W.c W.d) (.complex .f32 W.e W.f) (.complex .f32 W.g W.h)
          clear c0 c1 c2 c3 g0 g1 g2 g3
          obtain ⟨x0, x1, x2, x3⟩ := hR7.cells
          have g0 := hR7.frozen 0
          have g1 := hR7.frozen 1
          have g2 := hR7.frozen 2
          have g3 := hR7.frozen 3
          have OW := Lib.hid hO8
          have CW := Lib.hid h4.1
          have GW := Lib.hid h4.2
          have RW := Lib.hid hR8
          clear hO hO8 h4 hR7 hR8 hc hg
          go_upto_region 8 with fail
          generalize World.setCell _ _ _ = w8 at OW CW GW RW ⊢
          clear x0 x1 x2 x3 g0 g1 g2 g3
          obtain ⟨x0, x1, x2, x3⟩ := RW.out.cells
          have hsz := GW.out.size
          have O9 := Lib.hid (World.ownsRow.alloc OW.out (.cells #[.complex .f32 W.a W.b, .complex .f32 W.c W.d, .complex .f32 W.e W.f, .complex .f32 W.g W.h] 51))
          have C9 := Lib.hid (calcAlloc CW.out (.cells #[.complex .f32 W.a W.b, .complex .f32 W.c W.d, .complex .f32 W.e W.f, .complex .f32 W.g W.h] 51))
          have G9 := Lib.hid (grownAlloc GW.out (.cells #[.complex .f32 W.a W.b, .complex .f32 W.c W.d, .complex .f32 W.e W.f, .complex .f32 W.g W.h] 51))
          go_wp2_with (at_builtin; refine wpList_append_own _ rfl _ _ 85 rfl w.heap.size 51 i0 (.agg #[.complex .f32 0 0, .complex .f32 0 0, .complex .f32 0 0, .complex .f32 0 0]) 4 32 Try.underlying85 HI.out HZ0.out HZ1.out HZ2.out rfl (by decide) _ _ _ rfl O9.out ⟨w8.heap.size, 0, none⟩ 1 1 [.complex .f32 W.a W.b, .complex .f32 W.c W.d, .complex .f32 W.e W.f, .complex .f32 W.g W.h] rfl rfl ?c1 ?c2 ?c3 ?c4 ?c5 ?_)
          case c1 =>
            intro j u hj
            have hR := (row4_new w8 (.complex .f32 W.a W.b) (.complex .f32 W.c W.d) (.complex .f32 W.e W.f) (.complex .f32 W.g W.h) 51).cells
            rw [addr_plus, Nat.zero_add]
            match j, hj with
            | 0, hj => cases hj; exact hR.1
            | 1, hj => cases hj; exact hR.2.1
            | 2, hj => cases hj; exact hR.2.2.1
            | 3, hj => cases hj; exact hR.2.2.2
          case c2 =>
            intro u hu
            simp only [List.mem_cons, List.not_mem_nil, or_false] at hu
            rcases hu with rfl | rfl | rfl | rfl <;> rfl
          case c3 => unfold maxLen; omega
          case c4 => omega
          case c5 => simp; omega
          intro v' w3 hown' hgrow _
          have HN := Lib.hid (show Tb w B m xs (k + 1) v' w3 from Tb.append (W := W) HWW.out O9.out C9.out G9.out BB.out hown' hgrow)
          clear hown' hgrow
          go_wp2
          exact ⟨⟨k + 1, by omega, by go_num, HN.out⟩, by simp [intOf]; omega⟩
        · obtain ⟨e1, e2⟩ := N2.out hc0
          rw [HQ.out.2.2.2] at e1
          have HWW := Lib.hid e1.symm
          have OW := Lib.hid TB.out.own
          have CW := Lib.hid (show CalcAt wc B (iC m xs (k + 1)) from e2 ▸ TB.out.hc)
          have GW := Lib.hid TB.out.hg
          clear e1 e2 g0 g1 g2 g3
          by_cases hm0 : 0 < m
          · have hr1 : (((k : Int) + 1) % m == 0) = false := by
              rw [beq_eq_false_iff_ne]
              exact fun h => hc0 ⟨hm0, h⟩
            have hmne : m ≠ 0 := by omega
            have w2' : IntKind.i64.wrap (((k : Int) + 1) % m) = ((k : Int) + 1) % m := by
              have h5 := Int.emod_nonneg ((k : Int) + 1) (show m ≠ 0 by omega)
              have h6 : ((k : Int) + 1) % m ≤ (k : Int) + 1 := by
                rcases (by omega : (k : Int) + 1 < m ∨ m ≤ (k : Int) + 1) with h7 | h7
                · rw [Int.emod_eq_of_lt (by omega) h7]; omega
                · have := Int.emod_lt_of_pos ((k : Int) + 1) (show 0 < m by omega)
                  omega
              exact Pl.wrap_small' _ (by omega) (by omega)
            clear hc0
            have hsz := GW.out.size
            have O9 := Lib.hid (World.ownsRow.alloc OW.out (.cells #[.complex .f32 U.a U.b, .complex .f32 U.c U.d, .complex .f32 U.e U.f, .complex .f32 U.g U.h] 51))
            have C9 := Lib.hid (calcAlloc CW.out (.cells #[.complex .f32 U.a U.b, .complex .f32 U.c U.d, .complex .f32 U.e U.f, .complex .f32 U.g U.h] 51))
            have G9 := Lib.hid (grownAlloc GW.out (.cells #[.complex .f32 U.a U.b, .complex .f32 U.c U.d, .complex .f32 U.e U.f, .complex .f32 U.g U.h] 51))
            go_wp2_with (at_builtin; refine wpList_append_own _ rfl _ _ 85 rfl w.heap.size 51 i0 (.agg #[.complex .f32 0 0, .complex .f32 0 0, .complex .f32 0 0, .complex .f32 0 0]) 4 32 Try.underlying85 HI.out HZ0.out HZ1.out HZ2.out rfl (by decide) _ _ _ rfl O9.out ⟨wc.heap.size, 0, none⟩ 1 1 [.complex .f32 U.a U.b, .complex .f32 U.c U.d, .complex .f32 U.e U.f, .complex .f32 U.g U.h] rfl rfl ?c1 ?c2 ?c3 ?c4 ?c5 ?_)
            case c1 =>
              intro j u hj
              have hR := (row4_new wc (.complex .f32 U.a U.b) (.complex .f32 U.c U.d) (.complex .f32 U.e U.f) (.complex .f32 U.g U.h) 51).cells
              rw [addr_plus, Nat.zero_add]
              match j, hj with
              | 0, hj => cases hj; exact hR.1
              | 1, hj => cases hj; exact hR.2.1
              | 2, hj => cases hj; exact hR.2.2.1
              | 3, hj => cases hj; exact hR.2.2.2
            case c2 =>
              intro u hu
              simp only [List.mem_cons, List.not_mem_nil, or_false] at hu
              rcases hu with rfl | rfl | rfl | rfl <;> rfl
            case c3 => unfold maxLen; omega
            case c4 => omega
            case c5 => simp; omega
            intro v' w3 hown' hgrow _
            have HN := Lib.hid (show Tb w B m xs (k + 1) v' w3 from Tb.append (W := U) HWW.out O9.out C9.out G9.out BB.out hown' hgrow)
            clear hown' hgrow
            go_wp2
            exact ⟨⟨k + 1, by omega, by go_num, HN.out⟩, by simp [intOf]; omega⟩
          · obtain rfl : m = 0 := by omega
            clear hc0
            have hsz := GW.out.size
            have O9 := Lib.hid (World.ownsRow.alloc OW.out (.cells #[.complex .f32 U.a U.b, .complex .f32 U.c U.d, .complex .f32 U.e U.f, .complex .f32 U.g U.h] 51))
            have C9 := Lib.hid (calcAlloc CW.out (.cells #[.complex .f32 U.a U.b, .complex .f32 U.c U.d, .complex .f32 U.e U.f, .complex .f32 U.g U.h] 51))
            have G9 := Lib.hid (grownAlloc GW.out (.cells #[.complex .f32 U.a U.b, .complex .f32 U.c U.d, .complex .f32 U.e U.f, .complex .f32 U.g U.h] 51))
            go_wp2_with (at_builtin; refine wpList_append_own _ rfl _ _ 85 rfl w.heap.size 51 i0 (.agg #[.complex .f32 0 0, .complex .f32 0 0, .complex .f32 0 0, .complex .f32 0 0]) 4 32 Try.underlying85 HI.out HZ0.out HZ1.out HZ2.out rfl (by decide) _ _ _ rfl O9.out ⟨wc.heap.size, 0, none⟩ 1 1 [.complex .f32 U.a U.b, .complex .f32 U.c U.d, .complex .f32 U.e U.f, .complex .f32 U.g U.h] rfl rfl ?d1 ?d2 ?d3 ?d4 ?d5 ?_)
            case d2 => exact ⟨rfl, rfl, rfl, rfl⟩
            case d3 => unfold maxLen; omega
            case d4 => omega
            case d5 => omega
            intro v' w3 hown' hgrow
            try intro _
            have HN := Lib.hid (show Tb w B 0 xs (k + 1) v' w3 from Tb.append (W := U) HWW.out O9.out C9.out G9.out BB.out hown' hgrow)
            clear hown' hgrow
            go_wp2
            exact ⟨⟨k + 1, by omega, by go_num, HN.out⟩, by simp [intOf]; omega⟩
    · obtain rfl : k = xs.length := by omega
      have T0 := Lib.hid hT; clear hT
      go_wp2
      go_ret
      exact ⟨_, rfl, T0.out⟩
end Go.Proofs.Ytkfahacnanlnfaa
