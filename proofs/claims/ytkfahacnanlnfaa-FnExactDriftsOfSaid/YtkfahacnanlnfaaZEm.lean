/- Walks: tables of sequences, the reference's loop. -/
import Derived.Test.YtkfahacnanlnfaaZEl
import Derived.Deep.DeepCutAuto
namespace Go.Proofs.Ytkfahacnanlnfaa
open Go.RowKit Ieee
attribute [local go_sem ↓] Go.wp_at_zero Go.wp_at_succ

theorem Pl.wrap_small' (P : Int) (h0 : -2147483648 ≤ P) (h1 : P ≤ 2147483647) : IntKind.i64.wrap P = P := by
  simp [IntKind.wrap, IntKind.bits, IntKind.signed]; omega
/-- Block B is the table t. -/
def TabAt (w : World) (B : Nat) (t : T8) : Prop := Row4 w B (.complex .f32 t.a t.b) (.complex .f32 t.c t.d) (.complex .f32 t.e t.f) (.complex .f32 t.g t.h)
theorem times_val {K : Int} (p t : T8) (w : World) (u : T8) (hu : tmT p t = u) (hx : purT p) (hy : limT K t) (h1 : -149 ≤ K) (h2 : K < 125) :
    Calls Try.prog 95 #[.agg #[.complex .f32 p.a p.b, .complex .f32 p.c p.d, .complex .f32 p.e p.f, .complex .f32 p.g p.h], .agg #[.complex .f32 t.a t.b, .complex .f32 t.c t.d, .complex .f32 t.e t.f, .complex .f32 t.g t.h]] w
    fun e w' => e = .returned (.agg #[.complex .f32 u.a u.b, .complex .f32 u.c u.d, .complex .f32 u.e u.f, .complex .f32 u.g u.h]) ∧ Below w.heap.size w w' := by
  rw [← hu]; exact l03Times_any p t w hx hy h1 h2
theorem pulse_val (a : Int) (k : Nat) (b : Bool) (w : World) (hk : k ≤ 24) (p : T8) (hp : plT ⟨a, (k : Int), b⟩ = p) : Calls Try.prog 96 #[.agg #[.int .i64 a, .int .i64 (k : Int), .bool b]] w
    fun e w' => e = .returned (.agg #[.complex .f32 p.a p.b, .complex .f32 p.c p.d, .complex .f32 p.e p.f, .complex .f32 p.g p.h]) ∧ Below w.heap.size w w' := by
  rw [← hp]; exact l05Pulse_any a k b w hk
theorem is_val {K : Int} (u : T8) (w : World) (h : limT K u) : Calls Try.prog 108 #[.agg #[.complex .f32 u.a u.b, .complex .f32 u.c u.d, .complex .f32 u.e u.f, .complex .f32 u.g u.h]] w fun e' w' => e' = .returned (.bool true) ∧ Below w.heap.size w w' :=
  l03Is_yes _ _ _ _ _ _ _ _ K w h
theorem renew_val {K : Int} (u : T8) (w : World) (h : limT K u) (h1 : -74 ≤ K) (h2 : K ≤ 62) (v : T8) (c : Int) (hv : (deadT u = true ∧ v = zeroT ∧ c = 5) ∨ (deadT u = false ∧ v = renT u ∧ c = 0)) :
    Calls Try.prog 109 #[.agg #[.complex .f32 u.a u.b, .complex .f32 u.c u.d, .complex .f32 u.e u.f, .complex .f32 u.g u.h]] w fun e w' => e = .returned (.tuple #[.agg #[.complex .f32 v.a v.b, .complex .f32 v.c v.d, .complex .f32 v.e v.f, .complex .f32 v.g v.h], .int .i64 c]) ∧ Below w.heap.size w w' := by
  rcases hv with ⟨hd, rfl, rfl⟩ | ⟨hd, rfl, rfl⟩
  · exact l03Renew_no u K w h h1 h2 hd
  · exact (l03Renew_yes u K w h h1 h2 hd).1
theorem unit_val (w : World) (u : T8) (hu : unitT = u) : Calls Try.prog 93 #[] w fun e w' => e = .returned (.agg #[.complex .f32 u.a u.b, .complex .f32 u.c u.d, .complex .f32 u.e u.f, .complex .f32 u.g u.h]) ∧ Below w.heap.size w w' := by
  rw [← hu]; exact l03Unit_any w
/-- What the loop keeps. -/
def Lp (w : World) (O : Nat) (m : Int) (xs : List Pl.Pu) (k : Nat) (wr : World) : Prop :=
  ∃ t, tbl m xs k = some t ∧ TabAt wr O t ∧ TabAt wr w.heap.size zeroT ∧ Below w.heap.size w wr

/-- Behind a product. -/
def Md (w : World) (O : Nat) (U : T8) (k : Nat) (s7 : Value) (wx : World) : Prop := s7 = .int .i64 (k : Int) ∧ TabAt wx O U ∧ TabAt wx w.heap.size zeroT ∧ Below w.heap.size w wx
theorem Md.mk' {w w' : World} {O : Nat} {U t : T8} {k : Nat} (h1 : TabAt w' O t) (h2 : TabAt w' w.heap.size zeroT) (h3 : Below w.heap.size w w') (hO : w.heap.size < O) :
    Md w O U k (.int .i64 (k : Int)) ((((w'.setCell ⟨O, 0, none⟩ (.complex .f32 U.a U.b)).setCell ⟨O, 1, none⟩ (.complex .f32 U.c U.d)).setCell ⟨O, 2, none⟩ (.complex .f32 U.e U.f)).setCell ⟨O, 3, none⟩ (.complex .f32 U.g U.h)) :=
  ⟨rfl, Row4.put h1 _ _ _ _, (((Row4.other h2 (by simp; omega) _).other (by simp; omega) _).other (by simp; omega) _).other (by simp; omega) _, below_set4 h3 (Nat.le_of_lt hO) _ _ _ _⟩
set_option maxRecDepth 100000 in
set_option maxHeartbeats 4000000 in
theorem l05Table_any (A : Option Addr) (c : Nat) (xs : List Pl.Pu) (m : Int) (w : World) (hs : Pl.isSeq xs = true) (hr : Pl.Rd w A xs) (hm : 1 ≤ m) :
    Calls Try.prog 85 #[.slice A xs.length c, .int .i64 m] w (MadeT2 (tblV m xs) (tblC m xs) w) := by
  obtain ⟨hl, hh⟩ := hs_of hs
  have HS := Lib.hid hs; clear hs
  have HH := Lib.hid hh; clear hh
  have HR := Lib.hid hr; clear hr
  obtain ⟨u0, hu0⟩ : ∃ u, unitT = u := ⟨_, rfl⟩
  have KU := Lib.hid (fun w => unit_val w u0 hu0)
  have HU := Lib.hid hu0; clear hu0
  have X0 := Lib.hid (row4_new w (.complex .f32 0 0) (.complex .f32 0 0) (.complex .f32 0 0) (.complex .f32 0 0) 51)
  have B0 := Lib.hid ((Below.refl w.heap.size w).alloc (Nat.le_refl _) (.cells #[.complex .f32 0 0, .complex .f32 0 0, .complex .f32 0 0, .complex .f32 0 0] 51))
  unfold MadeT2 T8.val quad
  go_enter Try.func85, Try.ntmps85
  go_wp2_with fail
  refine (KU.out _).mono ?_
  rintro e w1 ⟨rfl, b1⟩
  have X1 := Lib.hid (X0.out.below b1 X0.out.lt)
  have B1 := Lib.hid (B0.out.trans (b1.mono B0.out.size))
  clear b1 X0 B0
  have Y2 := Lib.hid (row4_new w1 (.complex .f32 u0.a u0.b) (.complex .f32 u0.c u0.d) (.complex .f32 u0.e u0.f) (.complex .f32 u0.g u0.h) 51)
  have X2 := Lib.hid (X1.out.alloc (.cells #[.complex .f32 u0.a u0.b, .complex .f32 u0.c u0.d, .complex .f32 u0.e u0.f, .complex .f32 u0.g u0.h] 51))
  have B2 := Lib.hid (B1.out.alloc B1.out.size (.cells #[.complex .f32 u0.a u0.b, .complex .f32 u0.c u0.d, .complex .f32 u0.e u0.f, .complex .f32 u0.g u0.h] 51))
  have hO : w.heap.size < w1.heap.size := X1.out.lt
  clear X1 B1
  go_wp2
  go_loopw [7] (fun i wr => ∃ k : Nat, k ≤ xs.length ∧ i = .int .i64 k ∧ Lp w w1.heap.size m xs k wr) (fun i _ => xs.length - (intOf i).toNat)
  case atStart => exact ⟨0, Nat.zero_le _, rfl, u0, by rw [← HU.out]; rfl, Y2.out, X2.out, B2.out⟩
  case round =>
    obtain ⟨k, hk, rfl, t, ht, hT, hZ, hB⟩ := hrel
    clear X2 Y2 B2
    by_cases hlt : k < xs.length
    · obtain ⟨p, hp⟩ : ∃ p, xs[k]? = some p := ⟨_, List.getElem?_eq_getElem hlt⟩
      obtain ⟨b, off, rfl, hbl, p0, p1, p2⟩ := (HR.out.below hB) k p hp
      obtain ⟨h', hh', hh24⟩ := HH.out k p hp
      have hlim := tbl_lim HS.out k t hk ht
      have hpu := plT_pur p (by rw [hh']; simpa using hh24)
      have hsucc := tbl_succ m xs k t p ht hp
      obtain ⟨pa, ph, pb⟩ := p
      dsimp only at hh' p0 p1 p2
      subst hh'
      obtain ⟨P, hP⟩ : ∃ P, plT ⟨pa, (h' : Int), pb⟩ = P := ⟨_, rfl⟩
      rw [hP] at hpu
      obtain ⟨U, hU⟩ : ∃ U, tmT P t = U := ⟨_, rfl⟩
      have hUl : limT ((k : Int) + 1 + 1) U := by rw [← hU]; exact tmT_lim hpu hlim (by omega) (by omega)
      have KP := Lib.hid (fun w => pulse_val pa h' pb w hh24 P hP)
      have KT := Lib.hid (fun w => times_val P t w U hU hpu hlim (by omega) (by omega))
      have KI := Lib.hid (fun w => is_val U w hUl)
      have i0 : (0 : Int) ≤ (k : Int) := by omega
      have i1 : (k : Int) < (xs.length : Int) := by omega
      obtain ⟨c0, c1, c2, c3⟩ := hT.cells
      have g0 := hT.frozen 0
      have g1 := hT.frozen 1
      have g2 := hT.frozen 2
      have g3 := hT.frozen 3
      have HP := Lib.hid hp; clear hp
      have HTt := Lib.hid ht; clear ht
      have HSU := Lib.hid hsucc; clear hsucc
      have HLm := Lib.hid hlim; clear hlim hpu
      have HUl := Lib.hid hUl; clear hUl
      have HUU := Lib.hid (And.intro hP hU); clear hP hU
      have TT := Lib.hid hT; clear hT
      have ZZ := Lib.hid hZ; clear hZ
      have BB := Lib.hid hB; clear hB
      go_upto_region 5 with fail
      go_cut [7] (fun s7 wx => Md w w1.heap.size U k s7 wx)
      case first =>
        go_region_with
        (first
          | (go_at_call 96; refine (KP.out _).mono ?_; rintro e' w4 ⟨rfl, b4⟩; have TT4 := Lib.hid (TT.out.drew.below b4 TT.out.drew.lt); have ZZ4 := Lib.hid (ZZ.out.drew.below b4 ZZ.out.drew.lt); have BB4 := Lib.hid (BB.out.drew.trans (b4.mono BB.out.drew.size)); obtain ⟨x0, x1, x2, x3⟩ := TT4.out.cells; obtain ⟨b', off', hA', _, q0, q1, q2⟩ := (HR.out.below BB4.out) k _ HP.out; cases hA'; clear b4)
          | (go_at_call 95; refine (KT.out _).mono ?_; rintro e' w5 ⟨rfl, b5⟩; have TT5 := Lib.hid (TT4.out.below b5 TT4.out.lt); have ZZ5 := Lib.hid (ZZ4.out.below b5 ZZ4.out.lt); have BB5 := Lib.hid (BB4.out.trans (b5.mono BB4.out.size)); obtain ⟨x0, x1, x2, x3⟩ := TT5.out.cells; have g0 := TT5.out.frozen 0; have g1 := TT5.out.frozen 1; have g2 := TT5.out.frozen 2; have g3 := TT5.out.frozen 3; obtain ⟨b', off', hA', _, q0, q1, q2⟩ := (HR.out.below BB5.out) k _ HP.out; cases hA'; clear b5))
        all_goals
          go_wp2_with fail
          go_meet
          exact Md.mk' TT5.out ZZ5.out BB5.out hO
      case rest =>
        obtain ⟨rfl, hT, hZ, hB⟩ := hcut
        clear c0 c1 c2 c3 g0 g1 g2 g3 p0 p1 p2 TT ZZ BB
        obtain ⟨c0, c1, c2, c3⟩ := hT.cells
        have TT := Lib.hid hT; clear hT
        have ZZ := Lib.hid hZ; clear hZ
        have BB := Lib.hid hB; clear hB
        have q1 : IntKind.i64.wrap ((k : Int) + 1) = (k : Int) + 1 := Pl.wrap_small' _ (by omega) (by omega)
        have q2 : IntKind.i64.wrap (((k : Int) + 1) % m) = ((k : Int) + 1) % m := by
          have h5 := Int.emod_nonneg ((k : Int) + 1) (show m ≠ 0 by omega)
          have h6 : ((k : Int) + 1) % m ≤ (k : Int) + 1 := by
            rcases (by omega : (k : Int) + 1 < m ∨ m ≤ (k : Int) + 1) with h7 | h7
            · rw [Int.emod_eq_of_lt (by omega) h7]; omega
            · have := Int.emod_lt_of_pos ((k : Int) + 1) (show 0 < m by omega)
              omega
          exact Pl.wrap_small' _ (by omega) (by omega)
        have q3 : m ≠ 0 := by omega
        have q4 : 0 < m := by omega
        go_wp2_with fail
        refine (KI.out _).mono ?_
        rintro e' w6 ⟨rfl, b6⟩
        have TT6 := Lib.hid (TT.out.below b6 TT.out.lt)
        have ZZ6 := Lib.hid (ZZ.out.below b6 ZZ.out.lt)
        have BB6 := Lib.hid (BB.out.trans (b6.mono BB.out.size))
        clear b6 TT ZZ BB c0 c1 c2 c3
        obtain ⟨c0, c1, c2, c3⟩ := TT6.out.cells
        cases hr0 : (((k : Int) + 1) % m == 0) with
        | true =>
          obtain ⟨V, cd, hV⟩ : ∃ V cd, (deadT U = true ∧ V = zeroT ∧ cd = (5 : Int)) ∨ (deadT U = false ∧ V = renT U ∧ cd = 0) := by
            cases hd : deadT U with
            | true => exact ⟨_, _, .inl ⟨rfl, rfl, rfl⟩⟩
            | false => exact ⟨_, _, .inr ⟨rfl, rfl, rfl⟩⟩
          have KR := Lib.hid (fun w => renew_val U w HUl.out (by omega) (by omega) V cd hV)
          have HV := Lib.hid hV; clear hV
          go_wp2_with fail
          refine (KR.out _).mono ?_
          rintro e' w7 ⟨rfl, b7⟩
          have TT7 := Lib.hid (TT6.out.below b7 TT6.out.lt)
          have ZZ7 := Lib.hid (ZZ6.out.below b7 ZZ6.out.lt)
          have BB7 := Lib.hid (BB6.out.trans (b7.mono BB6.out.size))
          clear b7 TT6 ZZ6 BB6 c0 c1 c2 c3
          have hstep : stepT m k ⟨pa, (h' : Int), pb⟩ t = if deadT U then none else some (renT U) := by
            unfold stepT
            rw [HUU.out.1, HUU.out.2, if_pos ⟨q4, by simpa using hr0⟩]
          rcases HV.out with ⟨hd, rfl, rfl⟩ | ⟨hd, rfl, rfl⟩
          · rw [hd] at hstep
            have hnone := tbl_none (HSU.out.trans hstep) xs.length (by omega)
            have HN := Lib.hid (show tblV m xs = zeroT ∧ tblC m xs = 5 by unfold tblV tblC; rw [hnone]; exact ⟨rfl, rfl⟩)
            clear hstep hnone
            have ZZ8 := Lib.hid (ZZ7.out.alloc (.cells #[.complex .f32 zeroT.a zeroT.b, .complex .f32 zeroT.c zeroT.d, .complex .f32 zeroT.e zeroT.f, .complex .f32 zeroT.g zeroT.h] 51))
            have BB8 := Lib.hid (BB7.out.alloc BB7.out.size (.cells #[.complex .f32 zeroT.a zeroT.b, .complex .f32 zeroT.c zeroT.d, .complex .f32 zeroT.e zeroT.f, .complex .f32 zeroT.g zeroT.h] 51))
            have g0 := ZZ8.out.frozen 0
            have g1 := ZZ8.out.frozen 1
            have g2 := ZZ8.out.frozen 2
            have g3 := ZZ8.out.frozen 3
            obtain ⟨d0, d1, d2, d3⟩ := ZZ8.out.cells
            go_wp2
            obtain ⟨k0, k1, k2, k3⟩ := (ZZ8.out.put (.complex .f32 0 0) (.complex .f32 0 0) (.complex .f32 0 0) (.complex .f32 0 0)).cells
            refine bodyPost_ret (v := .tuple #[.agg #[.complex .f32 0 0, .complex .f32 0 0, .complex .f32 0 0, .complex .f32 0 0], .int .i64 5]) (by simp [results, Try.results85, go_sem, k0, k1, k2, k3]) rfl ?_
            exact ⟨by rw [HN.out.1, HN.out.2]; rfl, below_set4 BB8.out (Nat.le_refl _) _ _ _ _⟩
          · rw [hd] at hstep
            have HST := Lib.hid (HSU.out.trans hstep); clear hstep hd
            obtain ⟨V, hV⟩ : ∃ V, renT U = V := ⟨_, rfl⟩
            rw [hV] at HST ⊢
            clear hV
            have YY8 := Lib.hid (row4_new w7 (.complex .f32 V.a V.b) (.complex .f32 V.c V.d) (.complex .f32 V.e V.f) (.complex .f32 V.g V.h) 51)
            have TT8 := Lib.hid (TT7.out.alloc (.cells #[.complex .f32 V.a V.b, .complex .f32 V.c V.d, .complex .f32 V.e V.f, .complex .f32 V.g V.h] 51))
            have ZZ8 := Lib.hid (ZZ7.out.alloc (.cells #[.complex .f32 V.a V.b, .complex .f32 V.c V.d, .complex .f32 V.e V.f, .complex .f32 V.g V.h] 51))
            have BB8 := Lib.hid (BB7.out.alloc BB7.out.size (.cells #[.complex .f32 V.a V.b, .complex .f32 V.c V.d, .complex .f32 V.e V.f, .complex .f32 V.g V.h] 51))
            have g0 := TT8.out.frozen 0
            have g1 := TT8.out.frozen 1
            have g2 := TT8.out.frozen 2
            have g3 := TT8.out.frozen 3
            obtain ⟨c0, c1, c2, c3⟩ := TT8.out.cells
            obtain ⟨d0, d1, d2, d3⟩ := YY8.out.cells
            clear TT7 ZZ7 BB7
            go_wp2
            have hM := Md.mk' (U := V) (k := k) TT8.out ZZ8.out BB8.out hO
            exact ⟨⟨k + 1, by omega, by go_num, V, HST.out, hM.2.1, hM.2.2.1, hM.2.2.2⟩, by simp [intOf]; omega⟩
        | false =>
          go_wp2
          have hstep : stepT m k ⟨pa, (h' : Int), pb⟩ t = some U := by
            unfold stepT
            rw [HUU.out.1, HUU.out.2, if_neg (fun h => by rw [h.2] at hr0; exact absurd hr0 (by decide))]
          exact ⟨⟨k + 1, by omega, by go_num, U, HSU.out.trans hstep, TT6.out, ZZ6.out, BB6.out⟩, by simp [intOf]; omega⟩
    · obtain rfl : k = xs.length := by omega
      obtain ⟨c0, c1, c2, c3⟩ := hT.cells
      have g0 := hZ.frozen 0
      have g1 := hZ.frozen 1
      have g2 := hZ.frozen 2
      have g3 := hZ.frozen 3
      obtain ⟨d0, d1, d2, d3⟩ := hZ.cells
      have HN := Lib.hid (show tblV m xs = t ∧ tblC m xs = 0 by unfold tblV tblC; rw [ht]; exact ⟨rfl, rfl⟩)
      have TT := Lib.hid hT; clear hT ht
      have ZZ := Lib.hid hZ; clear hZ
      have BB := Lib.hid hB; clear hB
      go_wp2
      obtain ⟨k0, k1, k2, k3⟩ := (ZZ.out.put (.complex .f32 t.a t.b) (.complex .f32 t.c t.d) (.complex .f32 t.e t.f) (.complex .f32 t.g t.h)).cells
      refine bodyPost_ret (v := .tuple #[.agg #[.complex .f32 t.a t.b, .complex .f32 t.c t.d, .complex .f32 t.e t.f, .complex .f32 t.g t.h], .int .i64 0]) (by simp [results, Try.results85, go_sem, k0, k1, k2, k3]) rfl ?_
      exact ⟨by rw [HN.out.1, HN.out.2], below_set4 BB.out (Nat.le_refl _) _ _ _ _⟩
end Go.Proofs.Ytkfahacnanlnfaa
