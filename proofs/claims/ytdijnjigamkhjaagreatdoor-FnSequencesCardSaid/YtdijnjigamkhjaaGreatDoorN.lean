/- Walks: the reference reads a sequence: the loop. -/
import Derived.Test.YtdijnjigamkhjaaGreatDoorM
namespace Go.Proofs.YtdijnjigamkhjaaGreatDoor
open Go.RowKit

def RdPost (l : List UInt8) (w : World) (e : Ending) (w' : World) : Prop := ∃ v, e = .returned (.tuple #[v, .bool (readL l).isSome]) ∧ Own w' w.heap.size v (prV l) ∧ Below w.heap.size w w'
theorem own_empty {w : World} {base G : Nat} (hG : base ≤ G) (h : w.heap[G]? = some (.cells #[] 43 (0, 0))) : Own w base (.slice (some ⟨G, 0, none⟩) 0 0) [] :=
  .inr ⟨G, 0, [], rfl, hG, h, Nat.le_refl _, Nat.zero_le _, rfl⟩
theorem toList_list (l : List UInt8) : (⟨l.toArray⟩ : ByteArray).toList = l := by rw [Lib.toList_data]
theorem Rw.ne_of {wx : World} {base W : Nat} {x : List UInt8} {v : Value} {ps : List Pu} (h : Own wx base v ps) (hps : ps ≠ []) (hc : wx.cell? ⟨W, 0, none⟩ = some (.string ⟨x.toArray⟩)) : v.ownBlock ≠ some W := by
  intro e
  rcases h with ⟨rfl, rfl⟩ | ⟨G, cap, more, rfl, hG, hr, _⟩
  · cases e
  · injection e with e
    have e' : G = W := e
    subst e'
    cases ps with
    | nil => exact hps rfl
    | cons p r =>
      have := (hr.cells (k := 0) (p := p) rfl).1
      simp only [Nat.zero_mul] at this
      rw [this] at hc
      cases hc
theorem Own.append {w3 : World} {base : Nat} {v' : Value} {ps : List Pu} {p : Pu} (h : w3.ownsRow base 43 3 v' (ps.length + 1) (flat ps ++ [.int .i64 p.a, .int .i64 p.h, .bool p.b])) : Own w3 base v' (ps ++ [p]) := by
  refine Own.of_row ?_
  rw [flat_append, List.length_append]
  exact h
theorem u8_120 {n : Nat} (h : 120 ≤ n) (h2 : n ≤ 122) : IntKind.u8.wrap ((n : Int) - 120) = (n : Int) - 120 := u8_in _ (by omega) (by omega)
set_option maxRecDepth 100000 in
set_option maxHeartbeats 4000000 in
theorem l05Read_loop (l : List UInt8) (w : World) (hl : l.length ≤ 1099511627776) (h0 : l ≠ []) (h60 : (spl l).length ≤ 60) : Calls Tryz.prog 45 #[.string ⟨l.toArray⟩] w (RdPost l w) := by
  have KS := Lib.hid (fun w => l01Split_any l w hl)
  have hsz := size_list l
  have he : (⟨l.toArray⟩ : ByteArray).toList.isEmpty = false := by rw [toList_list]; cases l with | nil => exact absurd rfl h0 | cons c r => rfl
  have HWL := Lib.hid (show ∀ x ∈ spl l, x.length ≤ 1099511627776 by
    intro x hx
    exact Nat.le_trans (spl_mem hx) hl)
  have hne := spl_ne l
  have HRD := Lib.hid (show readL l = seqOf (spl l) by unfold readL; rw [if_neg h0, if_neg (by omega)])
  unfold RdPost prV MadeW at *
  rw [HRD.out]
  generalize spl l = ws at *
  obtain ⟨ok, hok⟩ : ∃ ok, (seqOf ws).isSome = ok := ⟨_, rfl⟩
  obtain ⟨qs, hqs⟩ : ∃ qs, (seqOf ws).getD [] = qs := ⟨_, rfl⟩
  have HNO := Lib.hid (fun (h : seqOf ws = none) => show ok = false ∧ qs = [] from ⟨by rw [← hok, h]; rfl, by rw [← hqs, h]; rfl⟩)
  have HYES := Lib.hid (fun ps (h : seqOf ws = some ps) => show ok = true ∧ qs = ps from ⟨by rw [← hok, h]; rfl, by rw [← hqs, h]; rfl⟩)
  rw [hok, hqs]
  clear hok hqs
  generalize (⟨l.toArray⟩ : ByteArray) = S at *
  clear HRD h0 hl hsz
  have hws : 0 < ws.length := List.length_pos_iff.2 hne
  obtain ⟨i0, hi, hz0, hz1, hz2⟩ := info_parts info43
  have HI := Lib.hid hi; clear hi
  have HZ0 := Lib.hid hz0; clear hz0
  have HZ1 := Lib.hid hz1; clear hz1
  have HZ2 := Lib.hid hz2; clear hz2
  have H0 := Lib.hid (heap_alloc_new w (.cells #[] 43))
  have B0 := Lib.hid ((Below.refl w.heap.size w).alloc (Nat.le_refl _) (.cells #[] 43))
  go_enter Tryz.func45, Tryz.ntmps45
  go_wp2_with fail
  refine (KS.out _).mono ?_
  rintro e w1 ⟨v1, rfl, o1, b1⟩
  obtain ⟨_, ⟨rfl, hn0⟩ | ⟨W, cap, cur, rfl, hW, hh, hcap, hmax, hs, ht⟩⟩ := id o1
  · omega
  have hW1 : w.heap.size + 1 ≤ W := by simpa using hW
  have R1 := Lib.hid (show Rw w W ws [] (.slice (some ⟨w.heap.size, 0, none⟩) 0 0) w1 from
    ⟨fun k x hx => by
        have := o1.cells (g := W) rfl k (.string ⟨x.toArray⟩) (by simp [strs, hx])
        rw [addr_plus, Nat.zero_add] at this
        exact this,
      (Array.getElem?_eq_some_iff.1 hh).1, own_empty (Nat.le_refl _) ((b1.block w.heap.size (by simp)).trans H0.out), fun e => by
        have e' : w.heap.size = W := Option.some.inj e
        omega, B0.out.trans (b1.mono B0.out.size)⟩)
  clear o1 b1 hh hs ht H0 B0 KS
  have e60 : ¬ ((60 : Int) < (ws.length : Int)) := by omega
  go_wp2
  go_loopw [4, 6] (fun v i wr => ∃ (k : Nat) (ps : List Pu), k ≤ ws.length ∧ i = .int .i64 k ∧ seqOf (ws.take k) = some ps ∧ Rw w W ws ps v wr) (fun _ i _ => ws.length - (intOf i).toNat)
  case atStart => exact ⟨0, [], Nat.zero_le _, rfl, rfl, R1.out⟩
  case round =>
    obtain ⟨k, ps, hk, rfl, hps, hR⟩ := hrel
    clear R1
    have hpl : ps.length = (ws.take k).length := seqOf_length hps
    by_cases hlt : k < ws.length
    · obtain ⟨x, hx⟩ : ∃ x, ws[k]? = some x := ⟨_, List.getElem?_eq_getElem hlt⟩
      have c0 := hR.cells k x hx
      have hxl := HWL.out x (List.mem_of_getElem? hx)
      obtain ⟨⟨b, r⟩, hst⟩ : ∃ br, strip x = br := ⟨_, rfl⟩
      have hrl : r.length ≤ 1099511627776 := by have := strip_len x; rw [hst] at this; dsimp only at this; omega
      have HST := Lib.hid hst; clear hst
      have HX := Lib.hid hx; clear hx
      have HPS := Lib.hid hps; clear hps
      rw [List.length_take] at hpl
      have P1 := Lib.hid (pb_new wr 0 0 false)
      have RR := Lib.hid (hR.alloc (.cells #[.int .i64 0, .int .i64 0, .bool false] 43))
      have hPW : wr.heap.size ≠ W := Nat.ne_of_gt hR.hW
      have hPb : w.heap.size ≤ wr.heap.size := hR.bel.size
      have hPv : u4.ownBlock ≠ some wr.heap.size := fun e => by have := (hR.own.lt' _ e).2; omega
      have RRt := Lib.hid (hR.alloc (.cells #[.int .i64 0, .int .i64 0, .bool true] 43))
      clear hR
      have i0' : (0 : Int) ≤ (k : Int) := by omega
      have i1' : (k : Int) < (ws.length : Int) := by omega
      obtain ⟨X, hX⟩ : ∃ X, (⟨x.toArray⟩ : ByteArray) = X := ⟨_, rfl⟩
      have hszx : X.size = x.length := by rw [← hX]; exact size_list x
      rw [hX] at c0
      have ltW := World.block_lt_of_cell? wr ⟨W, k, none⟩ c0
      rcases (show x = [] ∨ ∃ c d, x = c :: d by cases x with | nil => exact .inl rfl | cons c d => exact .inr ⟨c, d, rfl⟩) with hxx | ⟨c, xd, hxx⟩
      ·
        have hsx : X.size = 0 := by rw [hszx, hxx]; rfl
        have hbr : b = false ∧ r = [] := by have := HST.out; rw [hxx] at this; cases this; exact ⟨rfl, rfl⟩
        have HX2 := Lib.hid (show (⟨r.toArray⟩ : ByteArray) = X by rw [hbr.2, ← hX, hxx])
        have HB := Lib.hid hbr.1
        clear hszx hX hbr hxl
        go_upto_if 36 with fail
        go_cut [7] (fun s7 wx => Sg w W ws ps u4 wr.heap.size r b s7 wx)
        case first =>
          go_wp2_with fail
          go_meet
          exact ⟨by rw [HX2.out], by rw [HB.out]; exact P1.out, RR.out⟩
        case rest =>
          obtain ⟨rfl, hP, hR⟩ := hcut
          clear P1 RR RRt
          have PP := Lib.hid hP
          have RR := Lib.hid hR
          clear hP hR
          obtain ⟨Y, hY⟩ : ∃ Y, (⟨r.toArray⟩ : ByteArray) = Y := ⟨_, rfl⟩
          have hszr : Y.size = r.length := by rw [← hY]; exact size_list r
          rw [hY]
          have fr0 := PP.out.frozen 0
          have fr1 := PP.out.frozen 1
          obtain ⟨d0, d1, d2⟩ := PP.out.cells
          by_cases h2 : r.length < 2
          · have e2 : (r.length : Int) < 2 := by omega
            have hno := Lib.hid (HNO.out (seqOf_bad HX.out (spw_short HST.out h2)))
            clear hY
            go_wp2
            go_ret2
            exact ⟨_, by rw [hno.out.1]; rfl, by rw [hno.out.2]; exact .inl ⟨rfl, rfl⟩, RR.out.bel⟩
          · have e2 : ¬ (r.length : Int) < 2 := by omega
            obtain ⟨c1, d, hr, hdne⟩ : ∃ c1 d, r = c1 :: d ∧ d ≠ [] := by
              match r, h2 with
              | [], h2 => simp at h2
              | [c1], h2 => simp at h2
              | c1 :: d1 :: d, _ => exact ⟨c1, d1 :: d, rfl, by simp⟩
            have hsp := spw_cons (show strip x = (b, c1 :: d) by rw [HST.out, hr])
            have hi0 : ∀ W : World, (Instr.index 9 (.string Y) (.int .i64 0)).run Tryz.prog W = .ok (.int .u8 (c1.toNat : Int)) W := by
              rw [← hY]; exact idx_list (by rw [hr]; rfl)
            have hlow : ∀ W : World, (Instr.slice 9 (.string Y) (some (.int .i64 1)) none none).run Tryz.prog W = .ok (.string ⟨d.toArray⟩) W := by
              rw [← hY]
              have := fun W => sl_low (l := r) (i := 1) (by omega) W
              rw [hr] at this ⊢
              exact this
            have hdl : d.length ≤ 2199023255552 := by rw [hr] at hrl; simp at hrl; omega
            clear hY hr
            have HSP := Lib.hid hsp; clear hsp
            by_cases h3 : c1.toNat < 120
            · have e3 : (c1.toNat : Int) < 120 := by omega
              have hno := Lib.hid (HNO.out (seqOf_bad HX.out (by rw [HSP.out, if_pos (.inr (.inl h3))])))
              go_wp2
              go_ret2
              exact ⟨_, by rw [hno.out.1]; rfl, by rw [hno.out.2]; exact .inl ⟨rfl, rfl⟩, RR.out.bel⟩
            · have e3 : ¬ (c1.toNat : Int) < 120 := by omega
              by_cases h4 : 122 < c1.toNat
              · have e4 : (122 : Int) < (c1.toNat : Int) := by omega
                have hno := Lib.hid (HNO.out (seqOf_bad HX.out (by rw [HSP.out, if_pos (.inr (.inr h4))])))
                go_wp2
                go_ret2
                exact ⟨_, by rw [hno.out.1]; rfl, by rw [hno.out.2]; exact .inl ⟨rfl, rfl⟩, RR.out.bel⟩
              · have e4 : ¬ (122 : Int) < (c1.toNat : Int) := by omega
                have w1' := u8_120 (n := c1.toNat) (by omega) (by omega)
                have w2' : IntKind.i64.wrap ((c1.toNat : Int) - 120) = (c1.toNat : Int) - 120 := i64_in _ (by omega) (by omega)
                have hsp2 := Lib.hid (show spw x = if 0 ≤ lnum d ∧ lnum d ≤ 24 then some ⟨(c1.toNat : Int) - 120, lnum d, b⟩ else none by rw [HSP.out, if_neg (by rintro (h | h | h); exact hdne h; exact h3 h; exact h4 h)])
                have KN := Lib.hid (fun W => l01Number_any d W hdl)
                obtain ⟨n, hn⟩ : ∃ n, lnum d = n := ⟨_, rfl⟩
                obtain ⟨a1, ha1⟩ : ∃ a1, (c1.toNat : Int) - 120 = a1 := ⟨_, rfl⟩
                rw [hn] at hsp2 KN
                rw [ha1] at hsp2 w1' w2'
                clear hn HSP
                go_upto_region 17 with fail
                have P9 := Lib.hid (PP.out.set0 a1)
                have R9 := Lib.hid (RR.out.set (i := 0) hPb hPW hPv (.int .i64 a1))
                clear PP RR d0 d1 d2 fr0 fr1 ha1 e3 e4 w1' w2' hi0
                generalize wc.setCell ⟨wr.heap.size, 0, none⟩ (.int .i64 a1) = w9 at P9 R9 ⊢
                have fr1 := P9.out.frozen 1
                obtain ⟨d0, d1, d2⟩ := P9.out.cells
                go_wp2_with fail
                refine (KN.out _).mono ?_
                rintro e w' ⟨rfl, rfl⟩
                go_upto_region 18 with fail
                have P10 := Lib.hid (P9.out.set1 n)
                have R10 := Lib.hid (R9.out.set (i := 1) hPb hPW hPv (.int .i64 n))
                clear P9 R9 d0 d1 d2 fr1 hlow KN
                generalize w9.setCell ⟨wr.heap.size, 1, none⟩ (.int .i64 n) = w10 at P10 R10 ⊢
                obtain ⟨d0, d1, d2⟩ := P10.out.cells
                by_cases hin : 0 ≤ n ∧ n ≤ 24
                · have hb : inB n 0 24 = true := by unfold inB; simp [hin]
                  rw [if_pos hin] at hsp2
                  have HPS2 := Lib.hid (seqOf_take HX.out HPS.out hsp2.out)
                  have hsz10 := R10.out.bel.size
                  go_wp2_with (first | (go_at_call 51; refine (l01In_any _ _ _ _).mono ?_; rintro e w' ⟨rfl, rfl⟩; rw [hb]) | (at_builtin; refine wpList_append_own _ rfl _ _ 24 rfl w.heap.size 43 i0 (.agg #[.int .i64 0, .int .i64 0, .bool false]) 3 24 Tryz.underlying24 HI.out HZ0.out HZ1.out HZ2.out rfl (by decide) _ _ _ rfl (R10.out.own.row.alloc _) ⟨w10.heap.size, 0, none⟩ 1 1 [.int .i64 a1, .int .i64 n, .bool b] rfl rfl ?c1 ?c2 ?c3 ?c4 ?c5 ?_))
                  case c1 =>
                    intro j u hj
                    have hP := (pb_new w10 a1 n b).cells
                    rw [addr_plus, Nat.zero_add]
                    match j, hj with
                    | 0, hj => cases hj; exact hP.1
                    | 1, hj => cases hj; exact hP.2.1
                    | 2, hj => cases hj; exact hP.2.2
                  case c2 =>
                    intro u hu
                    simp only [List.mem_cons, List.not_mem_nil, or_false] at hu
                    rcases hu with rfl | rfl | rfl <;> rfl
                  case c3 => unfold maxLen; omega
                  case c4 => omega
                  case c5 => simp; omega
                  intro v' w11 hown' hgrow _
                  have hpk : ps.length = k := by omega
                  have hO := Own.append (ps := ps) (p := ⟨a1, n, b⟩) (by rw [hpk]; exact hown')
                  have R11 := Lib.hid (show Rw w W ws (ps ++ [⟨a1, n, b⟩]) v' w11 from by
                    have hA := R10.out.alloc (.cells #[.int .i64 a1, .int .i64 n, .bool b] 43)
                    have hcl : ∀ k x, ws[k]? = some x → w11.cell? ⟨W, k, none⟩ = some (.string ⟨x.toArray⟩) := fun k x hk =>
                      (World.cell?_of_block (hgrow.block W hA.hW (fun e => hA.ne e.symm))).trans (hA.cells k x hk)
                    obtain ⟨x0, hx0⟩ : ∃ x, ws[0]? = some x := ⟨_, List.getElem?_eq_getElem hws⟩
                    exact ⟨hcl, Nat.lt_of_lt_of_le hA.hW hgrow.size, hO, Rw.ne_of hO (by simp) (hcl 0 x0 hx0), hA.bel.grown hgrow hA.bel.size (fun g e => (hA.own.lt' g e).1)⟩)
                  clear hown' hgrow hO
                  go_wp2
                  exact ⟨⟨k + 1, ps ++ [⟨a1, n, b⟩], by omega, by go_num, HPS2.out, R11.out⟩, by simp [intOf]; omega⟩
                · have hb : inB n 0 24 = false := by
                    unfold inB
                    rw [← Bool.not_eq_true]
                    simp
                    omega
                  rw [if_neg hin] at hsp2
                  have hno := Lib.hid (HNO.out (seqOf_bad HX.out hsp2.out))
                  go_wp2_with (go_at_call 51; refine (l01In_any _ _ _ _).mono ?_; rintro e w' ⟨rfl, rfl⟩; rw [hb])
                  go_ret2
                  exact ⟨_, by rw [hno.out.1]; rfl, by rw [hno.out.2]; exact .inl ⟨rfl, rfl⟩, R10.out.bel⟩
      ·
        have hi0 : ∀ W : World, (Instr.index 9 (.string X) (.int .i64 0)).run Tryz.prog W = .ok (.int .u8 (c.toNat : Int)) W := by
          rw [← hX, hxx]; exact idx_list rfl
        have hsx : (0 : Int) < (x.length : Int) := by rw [hxx, List.length_cons]; omega
        by_cases h45 : c = 45
        · have hbr : b = true ∧ r = xd := by have := HST.out; rw [hxx, h45] at this; cases this; exact ⟨rfl, rfl⟩
          have hlow : ∀ W : World, (Instr.slice 9 (.string X) (some (.int .i64 1)) none none).run Tryz.prog W = .ok (.string ⟨r.toArray⟩) W := by
            rw [← hX, hbr.2, hxx]
            exact fun W => sl_low (l := c :: xd) (i := 1) (by simp) W
          have e45 : ((c.toNat : Int) == 45) = true := by rw [h45]; decide
          have HB := Lib.hid hbr.1
          have fr2 := P1.out.frozen 2
          obtain ⟨q0, q1, q2⟩ := P1.out.cells
          clear hX hbr hxl
          go_upto_if 36 with fail
          go_cut [7] (fun s7 wx => Sg w W ws ps u4 wr.heap.size r b s7 wx)
          case first =>
            go_wp2_with fail
            go_meet
            exact ⟨rfl, by rw [HB.out]; exact pb_new _ _ _ _, RRt.out⟩
          clear q0 q1 q2 fr2 hlow hi0
          case rest =>
            obtain ⟨rfl, hP, hR⟩ := hcut
            clear P1 RR RRt
            have PP := Lib.hid hP
            have RR := Lib.hid hR
            clear hP hR
            obtain ⟨Y, hY⟩ : ∃ Y, (⟨r.toArray⟩ : ByteArray) = Y := ⟨_, rfl⟩
            have hszr : Y.size = r.length := by rw [← hY]; exact size_list r
            rw [hY]
            have fr0 := PP.out.frozen 0
            have fr1 := PP.out.frozen 1
            obtain ⟨d0, d1, d2⟩ := PP.out.cells
            by_cases h2 : r.length < 2
            · have e2 : (r.length : Int) < 2 := by omega
              have hno := Lib.hid (HNO.out (seqOf_bad HX.out (spw_short HST.out h2)))
              clear hY
              go_wp2
              go_ret2
              exact ⟨_, by rw [hno.out.1]; rfl, by rw [hno.out.2]; exact .inl ⟨rfl, rfl⟩, RR.out.bel⟩
            · have e2 : ¬ (r.length : Int) < 2 := by omega
              obtain ⟨c1, d, hr, hdne⟩ : ∃ c1 d, r = c1 :: d ∧ d ≠ [] := by
                match r, h2 with
                | [], h2 => simp at h2
                | [c1], h2 => simp at h2
                | c1 :: d1 :: d, _ => exact ⟨c1, d1 :: d, rfl, by simp⟩
              have hsp := spw_cons (show strip x = (b, c1 :: d) by rw [HST.out, hr])
              have hi0 : ∀ W : World, (Instr.index 9 (.string Y) (.int .i64 0)).run Tryz.prog W = .ok (.int .u8 (c1.toNat : Int)) W := by
                rw [← hY]; exact idx_list (by rw [hr]; rfl)
              have hlow : ∀ W : World, (Instr.slice 9 (.string Y) (some (.int .i64 1)) none none).run Tryz.prog W = .ok (.string ⟨d.toArray⟩) W := by
                rw [← hY]
                have := fun W => sl_low (l := r) (i := 1) (by omega) W
                rw [hr] at this ⊢
                exact this
              have hdl : d.length ≤ 2199023255552 := by rw [hr] at hrl; simp at hrl; omega
              clear hY hr
              have HSP := Lib.hid hsp; clear hsp
              by_cases h3 : c1.toNat < 120
              · have e3 : (c1.toNat : Int) < 120 := by omega
                have hno := Lib.hid (HNO.out (seqOf_bad HX.out (by rw [HSP.out, if_pos (.inr (.inl h3))])))
                go_wp2
                go_ret2
                exact ⟨_, by rw [hno.out.1]; rfl, by rw [hno.out.2]; exact .inl ⟨rfl, rfl⟩, RR.out.bel⟩
              · have e3 : ¬ (c1.toNat : Int) < 120 := by omega
                by_cases h4 : 122 < c1.toNat
                · have e4 : (122 : Int) < (c1.toNat : Int) := by omega
                  have hno := Lib.hid (HNO.out (seqOf_bad HX.out (by rw [HSP.out, if_pos (.inr (.inr h4))])))
                  go_wp2
                  go_ret2
                  exact ⟨_, by rw [hno.out.1]; rfl, by rw [hno.out.2]; exact .inl ⟨rfl, rfl⟩, RR.out.bel⟩
                · have e4 : ¬ (122 : Int) < (c1.toNat : Int) := by omega
                  have w1' := u8_120 (n := c1.toNat) (by omega) (by omega)
                  have w2' : IntKind.i64.wrap ((c1.toNat : Int) - 120) = (c1.toNat : Int) - 120 := i64_in _ (by omega) (by omega)
                  have hsp2 := Lib.hid (show spw x = if 0 ≤ lnum d ∧ lnum d ≤ 24 then some ⟨(c1.toNat : Int) - 120, lnum d, b⟩ else none by rw [HSP.out, if_neg (by rintro (h | h | h); exact hdne h; exact h3 h; exact h4 h)])
                  have KN := Lib.hid (fun W => l01Number_any d W hdl)
                  obtain ⟨n, hn⟩ : ∃ n, lnum d = n := ⟨_, rfl⟩
                  obtain ⟨a1, ha1⟩ : ∃ a1, (c1.toNat : Int) - 120 = a1 := ⟨_, rfl⟩
                  rw [hn] at hsp2 KN
                  rw [ha1] at hsp2 w1' w2'
                  clear hn HSP
                  go_upto_region 17 with fail
                  have P9 := Lib.hid (PP.out.set0 a1)
                  have R9 := Lib.hid (RR.out.set (i := 0) hPb hPW hPv (.int .i64 a1))
                  clear PP RR d0 d1 d2 fr0 fr1 ha1 e3 e4 w1' w2' hi0
                  generalize wc.setCell ⟨wr.heap.size, 0, none⟩ (.int .i64 a1) = w9 at P9 R9 ⊢
                  have fr1 := P9.out.frozen 1
                  obtain ⟨d0, d1, d2⟩ := P9.out.cells
                  go_wp2_with fail
                  refine (KN.out _).mono ?_
                  rintro e w' ⟨rfl, rfl⟩
                  go_upto_region 18 with fail
                  have P10 := Lib.hid (P9.out.set1 n)
                  have R10 := Lib.hid (R9.out.set (i := 1) hPb hPW hPv (.int .i64 n))
                  clear P9 R9 d0 d1 d2 fr1 hlow KN
                  generalize w9.setCell ⟨wr.heap.size, 1, none⟩ (.int .i64 n) = w10 at P10 R10 ⊢
                  obtain ⟨d0, d1, d2⟩ := P10.out.cells
                  by_cases hin : 0 ≤ n ∧ n ≤ 24
                  · have hb : inB n 0 24 = true := by unfold inB; simp [hin]
                    rw [if_pos hin] at hsp2
                    have HPS2 := Lib.hid (seqOf_take HX.out HPS.out hsp2.out)
                    have hsz10 := R10.out.bel.size
                    go_wp2_with (first | (go_at_call 51; refine (l01In_any _ _ _ _).mono ?_; rintro e w' ⟨rfl, rfl⟩; rw [hb]) | (at_builtin; refine wpList_append_own _ rfl _ _ 24 rfl w.heap.size 43 i0 (.agg #[.int .i64 0, .int .i64 0, .bool false]) 3 24 Tryz.underlying24 HI.out HZ0.out HZ1.out HZ2.out rfl (by decide) _ _ _ rfl (R10.out.own.row.alloc _) ⟨w10.heap.size, 0, none⟩ 1 1 [.int .i64 a1, .int .i64 n, .bool b] rfl rfl ?c1 ?c2 ?c3 ?c4 ?c5 ?_))
                    case c1 =>
                      intro j u hj
                      have hP := (pb_new w10 a1 n b).cells
                      rw [addr_plus, Nat.zero_add]
                      match j, hj with
                      | 0, hj => cases hj; exact hP.1
                      | 1, hj => cases hj; exact hP.2.1
                      | 2, hj => cases hj; exact hP.2.2
                    case c2 =>
                      intro u hu
                      simp only [List.mem_cons, List.not_mem_nil, or_false] at hu
                      rcases hu with rfl | rfl | rfl <;> rfl
                    case c3 => unfold maxLen; omega
                    case c4 => omega
                    case c5 => simp; omega
                    intro v' w11 hown' hgrow _
                    have hpk : ps.length = k := by omega
                    have hO := Own.append (ps := ps) (p := ⟨a1, n, b⟩) (by rw [hpk]; exact hown')
                    have R11 := Lib.hid (show Rw w W ws (ps ++ [⟨a1, n, b⟩]) v' w11 from by
                      have hA := R10.out.alloc (.cells #[.int .i64 a1, .int .i64 n, .bool b] 43)
                      have hcl : ∀ k x, ws[k]? = some x → w11.cell? ⟨W, k, none⟩ = some (.string ⟨x.toArray⟩) := fun k x hk =>
                        (World.cell?_of_block (hgrow.block W hA.hW (fun e => hA.ne e.symm))).trans (hA.cells k x hk)
                      obtain ⟨x0, hx0⟩ : ∃ x, ws[0]? = some x := ⟨_, List.getElem?_eq_getElem hws⟩
                      exact ⟨hcl, Nat.lt_of_lt_of_le hA.hW hgrow.size, hO, Rw.ne_of hO (by simp) (hcl 0 x0 hx0), hA.bel.grown hgrow hA.bel.size (fun g e => (hA.own.lt' g e).1)⟩)
                    clear hown' hgrow hO
                    go_wp2
                    exact ⟨⟨k + 1, ps ++ [⟨a1, n, b⟩], by omega, by go_num, HPS2.out, R11.out⟩, by simp [intOf]; omega⟩
                  · have hb : inB n 0 24 = false := by
                      unfold inB
                      rw [← Bool.not_eq_true]
                      simp
                      omega
                    rw [if_neg hin] at hsp2
                    have hno := Lib.hid (HNO.out (seqOf_bad HX.out hsp2.out))
                    go_wp2_with (go_at_call 51; refine (l01In_any _ _ _ _).mono ?_; rintro e w' ⟨rfl, rfl⟩; rw [hb])
                    go_ret2
                    exact ⟨_, by rw [hno.out.1]; rfl, by rw [hno.out.2]; exact .inl ⟨rfl, rfl⟩, R10.out.bel⟩
        · have hbr : b = false ∧ r = x := by
            have := HST.out
            unfold strip at this
            rw [hxx, if_neg (by simpa using h45)] at this
            cases this
            exact ⟨rfl, hxx.symm⟩
          have e45 : ((c.toNat : Int) == 45) = false := by
            rw [beq_eq_false_iff_ne]
            intro h
            exact h45 (by rw [u8_of (show c.toNat = 45 by omega)]; rfl)
          have HX2 := Lib.hid (show (⟨r.toArray⟩ : ByteArray) = X by rw [hbr.2, hX])
          have HB := Lib.hid hbr.1
          clear hX hbr hxl
          go_upto_if 36 with fail
          go_cut [7] (fun s7 wx => Sg w W ws ps u4 wr.heap.size r b s7 wx)
          case first =>
            go_wp2_with fail
            go_meet
            exact ⟨by rw [HX2.out], by rw [HB.out]; exact P1.out, RR.out⟩
          clear hi0
          case rest =>
            obtain ⟨rfl, hP, hR⟩ := hcut
            clear P1 RR RRt
            have PP := Lib.hid hP
            have RR := Lib.hid hR
            clear hP hR
            obtain ⟨Y, hY⟩ : ∃ Y, (⟨r.toArray⟩ : ByteArray) = Y := ⟨_, rfl⟩
            have hszr : Y.size = r.length := by rw [← hY]; exact size_list r
            rw [hY]
            have fr0 := PP.out.frozen 0
            have fr1 := PP.out.frozen 1
            obtain ⟨d0, d1, d2⟩ := PP.out.cells
            by_cases h2 : r.length < 2
            · have e2 : (r.length : Int) < 2 := by omega
              have hno := Lib.hid (HNO.out (seqOf_bad HX.out (spw_short HST.out h2)))
              clear hY
              go_wp2
              go_ret2
              exact ⟨_, by rw [hno.out.1]; rfl, by rw [hno.out.2]; exact .inl ⟨rfl, rfl⟩, RR.out.bel⟩
            · have e2 : ¬ (r.length : Int) < 2 := by omega
              obtain ⟨c1, d, hr, hdne⟩ : ∃ c1 d, r = c1 :: d ∧ d ≠ [] := by
                match r, h2 with
                | [], h2 => simp at h2
                | [c1], h2 => simp at h2
                | c1 :: d1 :: d, _ => exact ⟨c1, d1 :: d, rfl, by simp⟩
              have hsp := spw_cons (show strip x = (b, c1 :: d) by rw [HST.out, hr])
              have hi0 : ∀ W : World, (Instr.index 9 (.string Y) (.int .i64 0)).run Tryz.prog W = .ok (.int .u8 (c1.toNat : Int)) W := by
                rw [← hY]; exact idx_list (by rw [hr]; rfl)
              have hlow : ∀ W : World, (Instr.slice 9 (.string Y) (some (.int .i64 1)) none none).run Tryz.prog W = .ok (.string ⟨d.toArray⟩) W := by
                rw [← hY]
                have := fun W => sl_low (l := r) (i := 1) (by omega) W
                rw [hr] at this ⊢
                exact this
              have hdl : d.length ≤ 2199023255552 := by rw [hr] at hrl; simp at hrl; omega
              clear hY hr
              have HSP := Lib.hid hsp; clear hsp
              by_cases h3 : c1.toNat < 120
              · have e3 : (c1.toNat : Int) < 120 := by omega
                have hno := Lib.hid (HNO.out (seqOf_bad HX.out (by rw [HSP.out, if_pos (.inr (.inl h3))])))
                go_wp2
                go_ret2
                exact ⟨_, by rw [hno.out.1]; rfl, by rw [hno.out.2]; exact .inl ⟨rfl, rfl⟩, RR.out.bel⟩
              · have e3 : ¬ (c1.toNat : Int) < 120 := by omega
                by_cases h4 : 122 < c1.toNat
                · have e4 : (122 : Int) < (c1.toNat : Int) := by omega
                  have hno := Lib.hid (HNO.out (seqOf_bad HX.out (by rw [HSP.out, if_pos (.inr (.inr h4))])))
                  go_wp2
                  go_ret2
                  exact ⟨_, by rw [hno.out.1]; rfl, by rw [hno.out.2]; exact .inl ⟨rfl, rfl⟩, RR.out.bel⟩
                · have e4 : ¬ (122 : Int) < (c1.toNat : Int) := by omega
                  have w1' := u8_120 (n := c1.toNat) (by omega) (by omega)
                  have w2' : IntKind.i64.wrap ((c1.toNat : Int) - 120) = (c1.toNat : Int) - 120 := i64_in _ (by omega) (by omega)
                  have hsp2 := Lib.hid (show spw x = if 0 ≤ lnum d ∧ lnum d ≤ 24 then some ⟨(c1.toNat : Int) - 120, lnum d, b⟩ else none by rw [HSP.out, if_neg (by rintro (h | h | h); exact hdne h; exact h3 h; exact h4 h)])
                  have KN := Lib.hid (fun W => l01Number_any d W hdl)
                  obtain ⟨n, hn⟩ : ∃ n, lnum d = n := ⟨_, rfl⟩
                  obtain ⟨a1, ha1⟩ : ∃ a1, (c1.toNat : Int) - 120 = a1 := ⟨_, rfl⟩
                  rw [hn] at hsp2 KN
                  rw [ha1] at hsp2 w1' w2'
                  clear hn HSP
                  go_upto_region 17 with fail
                  have P9 := Lib.hid (PP.out.set0 a1)
                  have R9 := Lib.hid (RR.out.set (i := 0) hPb hPW hPv (.int .i64 a1))
                  clear PP RR d0 d1 d2 fr0 fr1 ha1 e3 e4 w1' w2' hi0
                  generalize wc.setCell ⟨wr.heap.size, 0, none⟩ (.int .i64 a1) = w9 at P9 R9 ⊢
                  have fr1 := P9.out.frozen 1
                  obtain ⟨d0, d1, d2⟩ := P9.out.cells
                  go_wp2_with fail
                  refine (KN.out _).mono ?_
                  rintro e w' ⟨rfl, rfl⟩
                  go_upto_region 18 with fail
                  have P10 := Lib.hid (P9.out.set1 n)
                  have R10 := Lib.hid (R9.out.set (i := 1) hPb hPW hPv (.int .i64 n))
                  clear P9 R9 d0 d1 d2 fr1 hlow KN
                  generalize w9.setCell ⟨wr.heap.size, 1, none⟩ (.int .i64 n) = w10 at P10 R10 ⊢
                  obtain ⟨d0, d1, d2⟩ := P10.out.cells
                  by_cases hin : 0 ≤ n ∧ n ≤ 24
                  · have hb : inB n 0 24 = true := by unfold inB; simp [hin]
                    rw [if_pos hin] at hsp2
                    have HPS2 := Lib.hid (seqOf_take HX.out HPS.out hsp2.out)
                    have hsz10 := R10.out.bel.size
                    go_wp2_with (first | (go_at_call 51; refine (l01In_any _ _ _ _).mono ?_; rintro e w' ⟨rfl, rfl⟩; rw [hb]) | (at_builtin; refine wpList_append_own _ rfl _ _ 24 rfl w.heap.size 43 i0 (.agg #[.int .i64 0, .int .i64 0, .bool false]) 3 24 Tryz.underlying24 HI.out HZ0.out HZ1.out HZ2.out rfl (by decide) _ _ _ rfl (R10.out.own.row.alloc _) ⟨w10.heap.size, 0, none⟩ 1 1 [.int .i64 a1, .int .i64 n, .bool b] rfl rfl ?c1 ?c2 ?c3 ?c4 ?c5 ?_))
                    case c1 =>
                      intro j u hj
                      have hP := (pb_new w10 a1 n b).cells
                      rw [addr_plus, Nat.zero_add]
                      match j, hj with
                      | 0, hj => cases hj; exact hP.1
                      | 1, hj => cases hj; exact hP.2.1
                      | 2, hj => cases hj; exact hP.2.2
                    case c2 =>
                      intro u hu
                      simp only [List.mem_cons, List.not_mem_nil, or_false] at hu
                      rcases hu with rfl | rfl | rfl <;> rfl
                    case c3 => unfold maxLen; omega
                    case c4 => omega
                    case c5 => simp; omega
                    intro v' w11 hown' hgrow _
                    have hpk : ps.length = k := by omega
                    have hO := Own.append (ps := ps) (p := ⟨a1, n, b⟩) (by rw [hpk]; exact hown')
                    have R11 := Lib.hid (show Rw w W ws (ps ++ [⟨a1, n, b⟩]) v' w11 from by
                      have hA := R10.out.alloc (.cells #[.int .i64 a1, .int .i64 n, .bool b] 43)
                      have hcl : ∀ k x, ws[k]? = some x → w11.cell? ⟨W, k, none⟩ = some (.string ⟨x.toArray⟩) := fun k x hk =>
                        (World.cell?_of_block (hgrow.block W hA.hW (fun e => hA.ne e.symm))).trans (hA.cells k x hk)
                      obtain ⟨x0, hx0⟩ : ∃ x, ws[0]? = some x := ⟨_, List.getElem?_eq_getElem hws⟩
                      exact ⟨hcl, Nat.lt_of_lt_of_le hA.hW hgrow.size, hO, Rw.ne_of hO (by simp) (hcl 0 x0 hx0), hA.bel.grown hgrow hA.bel.size (fun g e => (hA.own.lt' g e).1)⟩)
                    clear hown' hgrow hO
                    go_wp2
                    exact ⟨⟨k + 1, ps ++ [⟨a1, n, b⟩], by omega, by go_num, HPS2.out, R11.out⟩, by simp [intOf]; omega⟩
                  · have hb : inB n 0 24 = false := by
                      unfold inB
                      rw [← Bool.not_eq_true]
                      simp
                      omega
                    rw [if_neg hin] at hsp2
                    have hno := Lib.hid (HNO.out (seqOf_bad HX.out hsp2.out))
                    go_wp2_with (go_at_call 51; refine (l01In_any _ _ _ _).mono ?_; rintro e w' ⟨rfl, rfl⟩; rw [hb])
                    go_ret2
                    exact ⟨_, by rw [hno.out.1]; rfl, by rw [hno.out.2]; exact .inl ⟨rfl, rfl⟩, R10.out.bel⟩
    · obtain rfl : k = ws.length := by omega
      rw [List.take_length] at hps
      have HPS := Lib.hid hps; clear hps
      have RR := Lib.hid hR; clear hR
      go_wp2
      go_ret2
      exact ⟨_, by rw [(HYES.out _ HPS.out).1]; rfl, by rw [(HYES.out _ HPS.out).2]; exact RR.out.own, RR.out.bel⟩
end Go.Proofs.YtdijnjigamkhjaaGreatDoor
