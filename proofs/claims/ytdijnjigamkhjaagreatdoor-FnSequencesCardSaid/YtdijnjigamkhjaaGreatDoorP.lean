/- Walks: the program reads a pulse. -/
import Derived.Test.YtdijnjigamkhjaaGreatDoorO
import Derived.Deep.RegionHeld3
import Derived.Lib.SmallJoins
namespace Go.Proofs.YtdijnjigamkhjaaGreatDoor
open Go.RowKit

/-! Plain. -/
theorem strip_puT {q : Pu} (h : q.ok = true) : strip (puT q) = (q.b, by1 (120 + q.a) :: Lib.decDigits q.h.toNat) := by
  obtain ⟨ha, _⟩ := ok_parts h
  obtain ⟨a, h', b⟩ := q
  dsimp only at ha ⊢
  unfold puT strip
  dsimp only
  cases b with
  | true => rfl
  | false =>
    rcases ha with rfl | rfl | rfl <;> rfl
theorem parse_dec : ∀ n : Fin 25, (match Lib.parseIntB 64 (Lib.decDigits n.1) with | .ok v => v == (n.1 : Int) | _ => false) = true := by decide +kernel
theorem parse_dec' {n : Nat} (h : n ≤ 24) : Lib.parseIntB 64 (Lib.decDigits n) = .ok (n : Int) := by
  have := parse_dec ⟨n, by omega⟩
  dsimp only at this
  split at this
  · rename_i v hv
    rw [hv]
    congr 1
    exact beq_iff_eq.1 this
  · cases this
/-- The axis of a letter. -/
def axisOf (c : UInt8) : Int := Lib.indexByte [120, 121, 122] c
theorem axis_by1 {a : Int} (h : a = 0 ∨ a = 1 ∨ a = 2) : axisOf (by1 (120 + a)) = a := by
  rcases h with rfl | rfl | rfl <;> decide
theorem rp_ok {x d : List UInt8} {c : UInt8} {b : Bool} {v : Int} (hst : strip x = (b, c :: d)) (hv : Lib.parseIntB 64 d = .ok v) :
    spw x = if (Pu.ok ⟨axisOf c, v, b⟩ && (puT ⟨axisOf c, v, b⟩ == x)) = true then some ⟨axisOf c, v, b⟩ else none := by
  cases hs : spw x with
  | some q =>
    obtain ⟨h1, h2⟩ := spw_ok hs
    have h3 := strip_puT h1
    rw [h2, hst] at h3
    obtain ⟨ha, k, hk, _, hk2⟩ := ok_parts h1
    simp only [Prod.mk.injEq, List.cons.injEq] at h3
    obtain ⟨rfl, rfl, rfl⟩ := h3
    rw [hk, Int.toNat_natCast, parse_dec' hk2] at hv
    cases hv
    rw [axis_by1 ha, ← hk]
    have e : (⟨q.a, q.h, q.b⟩ : Pu) = q := rfl
    rw [e, h1, h2, if_pos (by simp)]
  | none =>
    rw [if_neg]
    intro h
    simp only [Bool.and_eq_true, beq_iff_eq] at h
    have := spw_iff.2 h
    rw [hs] at this
    cases this
theorem rp_bad {x d : List UInt8} {c : UInt8} {b : Bool} (hst : strip x = (b, c :: d)) (hv : ∀ v, Lib.parseIntB 64 d ≠ .ok v) : spw x = none := by
  cases hs : spw x with
  | none => rfl
  | some q =>
    obtain ⟨h1, h2⟩ := spw_ok hs
    have h3 := strip_puT h1
    rw [h2, hst] at h3
    obtain ⟨ha, k, hk, _, hk2⟩ := ok_parts h1
    simp only [Prod.mk.injEq, List.cons.injEq] at h3
    obtain ⟨rfl, rfl, rfl⟩ := h3
    rw [hk, Int.toNat_natCast] at hv
    exact absurd (parse_dec' hk2) (hv _)
theorem cut_strip (x : List UInt8) : Lib.trimPrefix x [45] = (strip x).2 ∧ Lib.hasPrefix x [45] = (strip x).1 := by
  unfold Lib.trimPrefix Lib.hasPrefix strip
  cases x with
  | nil => exact ⟨rfl, rfl⟩
  | cons c r =>
    by_cases h : c = 45
    · subst h; exact ⟨rfl, rfl⟩
    · have h1 : ([45] : List UInt8).isPrefixOf (c :: r) = false := by
        simp [List.isPrefixOf]
        exact fun e => h e.symm
      rw [h1, if_neg (by decide), if_neg (by simpa using h)]
      exact ⟨rfl, rfl⟩
/-! Walks. -/
/-- The two errors of package strconv are there. -/
def Ev (w : World) : Prop := ∃ te pe te' pe', w.cell? ⟨4, 0, none⟩ = some (.iface te pe) ∧ w.cell? ⟨5, 0, none⟩ = some (.iface te' pe')
theorem Ev.below {w w' : World} (h : Ev w) (hb : Below w.heap.size w w') : Ev w' := by
  obtain ⟨te, pe, te', pe', h1, h2⟩ := h
  exact ⟨te, pe, te', pe', (hb.cell (p := ⟨4, 0, none⟩) (World.block_lt_of_cell? w _ h1)).trans h1, (hb.cell (p := ⟨5, 0, none⟩) (World.block_lt_of_cell? w _ h2)).trans h2⟩
/-- What ParseInt hands back. -/
def PiPost (d : List UInt8) (w : World) (e : Ending) (w' : World) : Prop :=
  (∃ v, Lib.parseIntB 64 d = .ok v ∧ e = .returned (.tuple #[.int .i64 v, .nilIface]) ∧ Below w.heap.size w w') ∨
  ((∀ v, Lib.parseIntB 64 d ≠ .ok v) ∧ ∃ v t p, e = .returned (.tuple #[.int .i64 v, .iface t p]) ∧ Below w.heap.size w w')
theorem parseInt_any (d : List UInt8) (w : World) (hd : d.length ≤ 2199023255552) (hev : Ev w) : Calls Tryz.prog 73 #[.string ⟨d.toArray⟩, .int .i64 10, .int .i64 64] w (PiPost d w) := by
  obtain ⟨te, pe, te', pe', h1, h2⟩ := hev
  have e0 : (⟨d.toArray⟩ : ByteArray).data.toList = d := by simp
  have hs : (⟨d.toArray⟩ : ByteArray).size ≤ 281474976710656 := by rw [size_list]; omega
  rcases hp : Lib.parseIntB 64 d with v | _ | _
  · refine (Tryz.strconv_ParseInt_10_at64_ok ⟨d.toArray⟩ (by omega) v (by rw [e0]; exact hp) w).mono ?_
    rintro e w' ⟨rfl, h⟩
    refine .inl ⟨v, hp, rfl, ?_⟩
    rcases h with rfl | ⟨t, rfl⟩
    · exact Below.refl _ _
    · exact Lib.bytesWorld_below _ _ _
  · refine (Any.strconv_ParseInt_10_at64_syntax Tryz.laysC174 ⟨d.toArray⟩ hs (by rw [e0]; exact hp) (.iface te pe) w h1 (.inr ⟨_, _, rfl⟩)).mono ?_
    rintro e w' ⟨N, rfl, _, _, b⟩
    exact .inr ⟨(fun v h => by rw [hp] at h; cases h), _, _, _, rfl, b⟩
  · refine (Any.strconv_ParseInt_10_at64_range Tryz.laysC174 ⟨d.toArray⟩ hs (by rw [e0]; exact hp) (.iface te' pe') w h2 (.inr ⟨_, _, rfl⟩)).mono ?_
    rintro e w' ⟨N, rfl, _, _, b⟩
    exact .inr ⟨(fun v h => by rw [hp] at h; cases h), _, _, _, rfl, b⟩
theorem cut_any (x : List UInt8) (w : World) : Calls Tryz.prog 72 #[.string ⟨x.toArray⟩, .string ⟨#[45]⟩] w fun e w' => e = .returned (.tuple #[.string ⟨(strip x).2.toArray⟩, .bool (strip x).1]) ∧ w = w' := by
  refine (Tryz.strings_CutPrefix ⟨x.toArray⟩ ⟨#[45]⟩ w).mono ?_
  rintro e w' ⟨rfl, rfl⟩
  obtain ⟨h1, h2⟩ := cut_strip x
  have e0 : (⟨x.toArray⟩ : ByteArray).data.toList = x := by simp
  have e1 : (⟨#[45]⟩ : ByteArray).data.toList = [45] := rfl
  rw [e0, e1, h1, h2]
  exact ⟨rfl, rfl⟩
theorem axis_any (c : UInt8) (w : World) : Calls Tryz.prog 74 #[.string ⟨#[120, 121, 122]⟩, .int .u8 (c.toNat : Int)] w fun e w' => e = .returned (.int .i64 (axisOf c)) ∧ w = w' := by
  refine (Tryz.strings_IndexByte ⟨#[120, 121, 122]⟩ (c.toNat : Int) w).mono ?_
  rintro e w' ⟨rfl, rfl⟩
  refine ⟨?_, rfl⟩
  unfold axisOf
  have e1 : (⟨#[120, 121, 122]⟩ : ByteArray).data.toList = [120, 121, 122] := rfl
  have e2 : ((c.toNat : Int)).toNat.toUInt8 = c := by rw [Int.toNat_natCast]; exact UInt8.ofNat_toNat
  rw [e1, e2]
/-- What the program's reading of a pulse hands back. -/
def RpPost (x : List UInt8) (w : World) (e : Ending) (w' : World) : Prop := ∃ p ok, e = .returned (.tuple #[Pu.val p, .bool ok]) ∧ spw x = (if ok = true then some p else none) ∧ Below w.heap.size w w'
theorem pulse_back (x : List UInt8) (p : Pu) : ((⟨(puT p).toArray⟩ : ByteArray).toList == (⟨x.toArray⟩ : ByteArray).toList) = (puT p == x) := by rw [toList_list, toList_list]
theorem isPulse_agg (a h : Int) (b : Bool) (w : World) : Calls Tryz.prog 34 #[.agg #[.int .i64 a, .int .i64 h, .bool b]] w fun e w' => e = .returned (.bool (Pu.ok ⟨a, h, b⟩)) ∧ Below w.heap.size w w' := isPulse_any ⟨a, h, b⟩ w
/-- What lies there while a pulse is read: the result's block, the pulse's. -/
structure Rp (w : World) (P : Nat) (a h : Int) (b : Bool) (wx : World) : Prop where
  res : Pb wx w.heap.size 0 0 false
  pu : Pb wx P a h b
  hP : w.heap.size < P
  bel : Below w.heap.size w wx
section
variable {w wx w2 : World} {P : Nat} {a h : Int} {b : Bool}
theorem Rp.drew (s : Rp w P a h b wx) : Rp w P a h b wx.drew := ⟨s.res, s.pu, s.hP, s.bel.drew⟩
theorem Rp.below (s : Rp w P a h b wx) (hb : Below wx.heap.size wx w2) : Rp w P a h b w2 := ⟨s.res.below hb, s.pu.below hb, s.hP, s.bel.trans (hb.mono s.bel.size)⟩
end
set_option maxRecDepth 100000 in
set_option maxHeartbeats 4000000 in
theorem readPulse_any (x : List UInt8) (w : World) (hx : x.length ≤ 1099511627776) (hev : Ev w) : Calls Tryz.prog 58 #[.string ⟨x.toArray⟩] w (RpPost x w) := by
  have KC := Lib.hid (fun w => cut_any x w)
  have R0 := Lib.hid (pb_new w 0 0 false)
  have B0 := Lib.hid ((Below.refl w.heap.size w).alloc (Nat.le_refl _) (.cells #[.int .i64 0, .int .i64 0, .bool false] 43))
  have HE := Lib.hid (hev.below ((Below.refl w.heap.size w).alloc (Nat.le_refl _) (.cells #[.int .i64 0, .int .i64 0, .bool false] 43)))
  clear hev
  obtain ⟨⟨b, r⟩, hst⟩ : ∃ br, strip x = br := ⟨_, rfl⟩
  have hrl : r.length ≤ 1099511627776 := by have := strip_len x; rw [hst] at this; dsimp only at this; omega
  rw [hst] at KC
  dsimp only at KC
  have HST := Lib.hid hst; clear hst
  obtain ⟨X, hX⟩ : ∃ X, (⟨x.toArray⟩ : ByteArray) = X := ⟨_, rfl⟩
  rw [hX] at KC ⊢
  have HX := Lib.hid hX; clear hX
  unfold RpPost Pu.val
  go_enter Tryz.func58, Tryz.ntmps58
  go_wp2_with fail
  refine (KC.out _).mono ?_
  rintro e w' ⟨rfl, rfl⟩
  have he : (⟨r.toArray⟩ : ByteArray).toList.isEmpty = r.isEmpty := by rw [toList_list]
  cases r with
  | nil =>
    have hno := Lib.hid (show spw x = none by unfold spw; rw [HST.out])
    generalize (⟨([] : List UInt8).toArray⟩ : ByteArray) = R at *
    have he' : R.toList.isEmpty = true := he
    have fr0 := R0.out.frozen 0
    have fr1 := R0.out.frozen 1
    have fr2 := R0.out.frozen 2
    go_wp2
    refine bodyPost_ret (v := .tuple #[.agg #[.int .i64 0, .int .i64 0, .bool false], .bool false]) (by simp [results, Tryz.results58, go_sem]) rfl ?_
    exact ⟨⟨0, 0, false⟩, false, rfl, by rw [hno.out]; rfl, B0.out⟩
  | cons c d =>
    have hi0 : ∀ W : World, (Instr.index 9 (.string ⟨(c :: d).toArray⟩) (.int .i64 0)).run Tryz.prog W = .ok (.int .u8 (c.toNat : Int)) W := idx_list rfl
    have hlow : ∀ W : World, (Instr.slice 9 (.string ⟨(c :: d).toArray⟩) (some (.int .i64 1)) none none).run Tryz.prog W = .ok (.string ⟨d.toArray⟩) W := fun W => sl_low (l := c :: d) (i := 1) (by simp) W
    have hdl : d.length ≤ 2199023255552 := by simp at hrl; omega
    generalize (⟨(c :: d).toArray⟩ : ByteArray) = R at *
    have he' : R.toList.isEmpty = false := he
    clear he hrl
    go_wp2_with fail
    refine (parseInt_any d _ hdl HE.out).mono ?_
    rintro e w1 (⟨v, hv, rfl, b1⟩ | ⟨hv, v, ty, pv, rfl, b1⟩)
    · have R1 := Lib.hid (R0.out.below b1)
      have B1 := Lib.hid (B0.out.trans (b1.mono B0.out.size))
      have hlaw := Lib.hid (rp_ok HST.out hv)
      clear b1 hv R0 B0
      go_wp2_with fail
      refine (axis_any c _).mono ?_
      rintro e w' ⟨rfl, rfl⟩
      obtain ⟨a, ha⟩ : ∃ a, axisOf c = a := ⟨_, rfl⟩
      rw [ha] at hlaw ⊢
      clear ha
      have hsz1 := R1.out.lt
      have S1 := Lib.hid (show Rp w w1.heap.size a v b (w1.alloc (.cells #[.int .i64 a, .int .i64 v, .bool b] 43)) from ⟨R1.out.alloc _, pb_new _ _ _ _, hsz1, B1.out.alloc B1.out.size _⟩)
      obtain ⟨q0, q1, q2⟩ := S1.out.pu.cells
      have fr0 := S1.out.res.frozen 0
      have fr1 := S1.out.res.frozen 1
      have fr2 := S1.out.res.frozen 2
      go_upto_region 6 with fail
      generalize w1.alloc (.cells #[.int .i64 a, .int .i64 v, .bool b] 43) = w2 at S1 q0 q1 q2 fr0 fr1 fr2 ⊢
      clear B1 R1
      have n1 : w.heap.size ≠ w1.heap.size := by omega
      have n2 : w1.heap.size ≠ w.heap.size := by omega
      cases hpok : Pu.ok ⟨a, v, b⟩ with
      | false =>
        rw [hpok] at hlaw
        first
          | go_region_with
              ((go_at_call 34; refine (isPulse_agg a v b _).mono ?_; rintro e' w4 ⟨rfl, b4⟩; rw [hpok]; have S4 := Lib.hid (S1.out.drew.below b4); clear b4; obtain ⟨x0, x1, x2⟩ := S4.out.pu.cells; have fr0 := S4.out.res.frozen 0; have fr1 := S4.out.res.frozen 1; have fr2 := S4.out.res.frozen 2; obtain ⟨y0, y1, y2⟩ := S4.out.res.cells))
          | fail "held3"
        all_goals (
          obtain ⟨k0, k1, k2⟩ := (((S4.out.res.set0 a).set1 v).set2 b).cells
          go_wp2
          refine bodyPost_ret (v := .tuple #[.agg #[.int .i64 a, .int .i64 v, .bool b], .bool false]) (by simp [results, Tryz.results58, go_sem, k0, k1, k2]) rfl ?_
          exact ⟨⟨a, v, b⟩, false, rfl, hlaw.out, ((S4.out.bel.setCell (Nat.le_refl _) _).setCell (Nat.le_refl _) _).setCell (Nat.le_refl _) _⟩)
      | true =>
        rw [hpok] at hlaw
        have KT := Lib.hid (fun W => pulseText_agg a v b W hpok)
        obtain ⟨bb, hbb⟩ : ∃ bb, (puT ⟨a, v, b⟩ == x) = bb := ⟨_, rfl⟩
        have hpb : ((⟨(puT ⟨a, v, b⟩).toArray⟩ : ByteArray).toList == X.toList) = bb := by rw [← HX.out, pulse_back _ _, hbb]
        rw [hbb] at hlaw
        generalize (⟨(puT ⟨a, v, b⟩).toArray⟩ : ByteArray) = T at *
        go_region_held3 (fun w' => w'.cell? ⟨w1.heap.size, 0, none⟩ = some (.int .i64 a) ∧ w'.cell? ⟨w1.heap.size, 1, none⟩ = some (.int .i64 v) ∧ w'.cell? ⟨w1.heap.size, 2, none⟩ = some (.bool b)) (go_keep)
          (first
            | (go_at_call 34; refine (isPulse_agg a v b _).mono ?_; rintro e' w4 ⟨rfl, b4⟩; rw [hpok]; have S4 := Lib.hid (S1.out.drew.below b4); clear b4; obtain ⟨x0, x1, x2⟩ := S4.out.pu.cells)
            | (go_at_call 29; refine (KT.out _).mono ?_; rintro e' w5 ⟨rfl, b5⟩; have S5 := Lib.hid (S4.out.below b5); clear b5; obtain ⟨x0, x1, x2⟩ := S5.out.pu.cells; have fr0 := S5.out.res.frozen 0; have fr1 := S5.out.res.frozen 1; have fr2 := S5.out.res.frozen 2; obtain ⟨y0, y1, y2⟩ := S5.out.res.cells))
        all_goals (
          obtain ⟨k0, k1, k2⟩ := (((S5.out.res.set0 a).set1 v).set2 b).cells
          go_wp2
          refine bodyPost_ret (v := .tuple #[.agg #[.int .i64 a, .int .i64 v, .bool b], .bool bb]) (by simp [results, Tryz.results58, go_sem, k0, k1, k2]) rfl ?_
          exact ⟨⟨a, v, b⟩, bb, rfl, hlaw.out, ((S5.out.bel.setCell (Nat.le_refl _) _).setCell (Nat.le_refl _) _).setCell (Nat.le_refl _) _⟩)
    · have R1 := Lib.hid (R0.out.below b1)
      have B1 := Lib.hid (B0.out.trans (b1.mono B0.out.size))
      have hno := Lib.hid (rp_bad HST.out hv)
      clear b1 hv R0 B0
      go_wp2_with fail
      refine (axis_any c _).mono ?_
      rintro e w' ⟨rfl, rfl⟩
      obtain ⟨a, ha⟩ : ∃ a, axisOf c = a := ⟨_, rfl⟩
      rw [ha]
      clear ha
      have hsz1 := R1.out.lt
      have S1 := Lib.hid (show Rp w w1.heap.size a v b (w1.alloc (.cells #[.int .i64 a, .int .i64 v, .bool b] 43)) from ⟨R1.out.alloc _, pb_new _ _ _ _, hsz1, B1.out.alloc B1.out.size _⟩)
      obtain ⟨q0, q1, q2⟩ := S1.out.pu.cells
      have fr0 := S1.out.res.frozen 0
      have fr1 := S1.out.res.frozen 1
      have fr2 := S1.out.res.frozen 2
      obtain ⟨y0, y1, y2⟩ := S1.out.res.cells
      go_upto_region 6 with fail
      generalize w1.alloc (.cells #[.int .i64 a, .int .i64 v, .bool b] 43) = w2 at S1 q0 q1 q2 fr0 fr1 fr2 y0 y1 y2 ⊢
      clear B1 R1
      have n1 : w.heap.size ≠ w1.heap.size := by omega
      have n2 : w1.heap.size ≠ w.heap.size := by omega
      go_region
      all_goals (
        obtain ⟨k0, k1, k2⟩ := (((S1.out.res.set0 a).set1 v).set2 b).cells
        go_wp2
        refine bodyPost_ret (v := .tuple #[.agg #[.int .i64 a, .int .i64 v, .bool b], .bool false]) (by simp [results, Tryz.results58, go_sem, k0, k1, k2]) rfl ?_
        exact ⟨⟨a, v, b⟩, false, rfl, by rw [hno.out]; rfl, (((S1.out.bel.setCell (Nat.le_refl _) _).setCell (Nat.le_refl _) _).setCell (Nat.le_refl _) _).drew⟩)
end Go.Proofs.YtdijnjigamkhjaaGreatDoor

