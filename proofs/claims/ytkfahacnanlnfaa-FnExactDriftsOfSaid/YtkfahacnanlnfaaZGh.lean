/- Walks: the drifts of a sequence: the reference to the end; marks in rows of floats. -/
/- Walks: the drifts of a sequence: the program's loop. -/
import Derived.Test.YtkfahacnanlnfaaZGe
import Derived.Test.YtkfahacnanlnfaaZGf
import Derived.Laws.OwnMore
namespace Go.Proofs.Ytkfahacnanlnfaa
open Go.RowKit Ieee

def drC (xs : List Pl.Pu) : Int := if Pl.isSeq xs then 0 else 1
def drL (xs : List Pl.Pu) : List Nat := if Pl.isSeq xs then dvs xs (xs.length + 1) else []
theorem specDrifts1_no (A : Option Addr) (c : Nat) (xs : List Pl.Pu) (w : World) (hn : xs.length ≤ 1048576) (hs : Pl.isSeq xs = false) (hr : Pl.Rd w A xs) :
    Calls Try.prog 64 #[.slice A xs.length c] w fun e w' => e = .returned (.tuple #[.slice none 0 0, .int .i64 1]) ∧ w = w' := by
  have HR := Lib.hid hr; clear hr
  go_enter Try.func64, Try.ntmps64
  go_wp2_with (go_at_call 84; refine (Pl.l05Is_any _ _ _ _ hn HR.out).mono ?_; rintro e w' ⟨rfl, rfl⟩; rw [hs])
  go_ret2
  exact ⟨rfl, rfl⟩
theorem drL_length {xs : List Pl.Pu} : (drL xs).length ≤ 61 := by
  unfold drL
  cases hs : Pl.isSeq xs with
  | true =>
    have := (hs_of hs).1
    rw [if_pos rfl, dvs_length]; omega
  | false => simp
theorem drL_cz (xs : List Pl.Pu) : (drL xs).map cz = drL xs := by
  unfold drL
  split
  · exact dvs_cz _ _
  · rfl
theorem drL_fin (xs : List Pl.Pu) : ∀ x ∈ drL xs, fin32 x = true := by
  intro x hx
  unfold drL at hx
  cases hs : Pl.isSeq xs with
  | false => rw [hs] at hx; simp at hx
  | true =>
    rw [hs, if_pos rfl] at hx
    unfold dvs at hx
    obtain ⟨k, hk, rfl⟩ := List.mem_map.1 hx
    unfold dv
    rw [fin_cz]
    exact drR_fin (sT_lim61 hs (by have := List.mem_range.1 hk; omega))
theorem specDrifts1_any (A : Option Addr) (c : Nat) (xs : List Pl.Pu) (w : World) (hn : xs.length ≤ 1048576) (hr : Pl.Rd w A xs) : Calls Try.prog 64 #[.slice A xs.length c] w (MadeF2 (drL xs) (drC xs) w) := by
  unfold drL drC
  cases hs : Pl.isSeq xs with
  | true => exact specDrifts1_yes A c xs w hs hr
  | false =>
    refine (specDrifts1_no A c xs w hn hs hr).mono ?_
    rintro e w' ⟨rfl, rfl⟩
    exact ⟨none, 0, rfl, fun k x h => by simp at h, Below.refl _ _⟩
theorem specDrifts_any (A : Option Addr) (c : Nat) (xs : List Pl.Pu) (w : World) (hn : xs.length ≤ 1048576) (hr : Pl.Rd w A xs) : Calls Try.prog 30 #[.slice A xs.length c] w (MadeF2 (drL xs) (drC xs) w) := by
  have KS := Lib.hid (fun w hr => specDrifts1_any A c xs w hn hr)
  have KF := Lib.hid (fun A c w hr => l00Floats_any A c (drL xs) w (Nat.le_trans drL_length (by decide)) hr)
  rw [drL_cz] at KF
  generalize drL xs = l at *
  generalize drC xs = q at *
  have HR := Lib.hid hr; clear hr
  unfold MadeF2 MadeF at *
  go_enter Try.func30, Try.ntmps30
  go_wp2_with fail
  refine (KS.out _ HR.out).mono ?_
  rintro e w1 ⟨A1, c1, rfl, r1, b1⟩
  have R1 := Lib.hid r1; clear r1
  have B1 := Lib.hid b1; clear b1
  go_wp2_with fail
  refine (KF.out _ _ _ R1.out).mono ?_
  rintro e w2 ⟨A2, c2, rfl, r2, b2⟩
  have R2 := Lib.hid r2; clear r2
  have B2 := Lib.hid (B1.out.trans (b2.mono B1.out.size)); clear b2
  go_wp2
  go_ret2
  exact ⟨_, _, rfl, R2.out, B2.out⟩

/-! Marks. -/
def mkF (j : Nat) : Nat := floatOfInt .f32 (1 + (j : Int))
def marksF (n : Nat) : List Nat := (List.range n).map mkF
theorem marksF_length (n : Nat) : (marksF n).length = n := by simp [marksF]
theorem mkF_fin : ∀ j : Fin 64, fin32 (mkF j.1) = true := by decide +kernel
theorem mkF_order {j : Nat} (hj : j < 64) : (FloatKind.f32.format.order (mkF j) (mkF j)) = some .eq := by
  have h := mkF_fin ⟨j, hj⟩
  obtain ⟨s, m, e, hr⟩ := fin_iff.1 h
  exact order_self (f := single) (fun s' t' h' => by rw [hr] at h'; cases h')
theorem marksF_get {n k : Nat} (h : k < n) : (marksF n)[k]? = some (mkF k) := by simp [marksF, h]
theorem marks_set (l : List Nat) (k : Nat) (hk : k < l.length) : (fvals (marksF k ++ l.drop k)).set k (.float .f32 (mkF k)) = fvals (marksF (k + 1) ++ l.drop (k + 1)) := by
  unfold fvals
  rw [List.map_append, List.map_append, List.set_append_right _ _ (by simp [marksF_length]), List.drop_eq_getElem_cons hk]
  simp only [List.length_map, marksF_length, Nat.sub_self, List.map_cons, List.set_cons_zero]
  rw [show marksF (k + 1) = marksF k ++ [mkF k] by simp [marksF, List.range_succ], List.map_append, List.append_assoc]
  rfl
theorem marks_get (l : List Nat) (k : Nat) (hk : k < l.length) : ∃ u, (fvals (marksF k ++ l.drop k))[k]? = some (.float .f32 u) := by
  refine ⟨l[k], ?_⟩
  unfold fvals
  rw [List.getElem?_map, List.getElem?_append_right (by simp [marksF_length]), marksF_length, Nat.sub_self, List.drop_eq_getElem_cons hk]
  rfl
theorem markFs_any (base g cap n : Nat) (l : List Nat) (w : World) (hl : l.length = n) (hn : n ≤ 61) (hr : w.ownsRow base 22 1 (.slice (some ⟨g, 0, none⟩) n cap) n (fvals l)) :
    Calls Try.prog 22 #[.slice (some ⟨g, 0, none⟩) n cap, .int .i64 1] w fun e w' => e = .returned (.int .i64 (1 + (n : Int))) ∧ w'.ownsRow base 22 1 (.slice (some ⟨g, 0, none⟩) n cap) n (fvals (marksF n)) ∧ w.grownBy w' (some g) := by
  have HR := Lib.hid hr; clear hr
  have HL := Lib.hid hl; clear hl
  go_enter Try.func22, Try.ntmps22
  go_wp2
  go_loopw [1, 5] (fun t i wr => ∃ k : Nat, k ≤ n ∧ i = .int .i64 k ∧ t = .int .i64 (1 + k) ∧ wr.ownsRow base 22 1 (.slice (some ⟨g, 0, none⟩) n cap) n (fvals (marksF k ++ l.drop k)) ∧ w.grownBy wr (some g)) (fun _ i _ => n - (intOf i).toNat)
  case atStart => exact ⟨0, Nat.zero_le _, rfl, by rfl, by simpa [marksF] using HR.out, World.grownBy.refl _ _⟩
  case round =>
    obtain ⟨k, hk, rfl, rfl, hrow, hg⟩ := hrel
    by_cases hlt : k < n
    · have hlk : k < l.length := by rw [HL.out]; exact hlt
      obtain ⟨u, hu⟩ := marks_get l k hlk
      have c0 := (hrow.cellAt k (by omega)).trans hu
      have f0 := hrow.frozenAt k
      have lt := World.block_lt_of_cell? wr ⟨g, k, none⟩ c0
      have e0 : floatOfInt .f32 (1 + (k : Int)) = mkF k := rfl
      have H := Lib.hid hrow; clear hrow hu
      go_wp2
      have hst := H.out.stored k (.float .f32 (mkF k))
      rw [marks_set l k hlk] at hst
      exact ⟨⟨k + 1, by omega, by go_num, by congr 1, hst.1, hg.trans hst.2⟩, by simp [intOf]; omega⟩
    · obtain rfl : k = n := by omega
      have H := Lib.hid hrow; clear hrow
      go_wp2
      go_ret
      refine ⟨rfl, ?_, hg⟩
      have := H.out
      rw [List.drop_of_length_le (by rw [HL.out]; exact Nat.le_refl _), List.append_nil] at this
      exact this
theorem heldFs_any (A : Option Addr) (cap n : Nat) (w : World) (hn : n ≤ 61) (hr : FRd w A (marksF n)) :
    Calls Try.prog 23 #[.slice A n cap, .int .i64 1] w fun e w' => e = .returned (.int .i64 (1 + (n : Int))) ∧ w = w' := by
  have HR := Lib.hid hr; clear hr
  go_enter Try.func23, Try.ntmps23
  go_wp2
  go_loop [1, 5] (fun t i => ∃ k : Nat, k ≤ n ∧ i = .int .i64 k ∧ t = .int .i64 (1 + k)) (fun _ i => n - (intOf i).toNat)
  case atStart => exact ⟨0, Nat.zero_le _, rfl, by rfl⟩
  case round =>
    obtain ⟨k, hk, rfl, rfl⟩ := hrel
    by_cases hlt : k < n
    · obtain ⟨b, off, rfl, hbl, c0⟩ := HR.out k _ (marksF_get hlt)
      have e0 : floatOfInt .f32 (1 + (k : Int)) = mkF k := rfl
      have o0 := mkF_order (j := k) (by omega)
      go_wp2
      exact ⟨⟨k + 1, by omega, by go_num, by congr 1⟩, by simp [intOf]; omega⟩
    · obtain rfl : k = n := by omega
      go_wp2
      go_ret
      exact ⟨rfl, rfl⟩
end Go.Proofs.Ytkfahacnanlnfaa
namespace Go.Proofs.Ytkfahacnanlnfaa
open Go.RowKit Ieee
attribute [local go_sem ↓] Go.wp_at_zero Go.wp_at_succ

/-- The call hands back a new slice of the floats l, and a code. -/
def MadeO (l : List Nat) (q : Int) (w : World) (e : Ending) (w' : World) : Prop := ∃ v, e = .returned (.tuple #[v, .int .i64 q]) ∧ w'.ownsRow w.heap.size 22 1 v l.length (fvals l) ∧ Below w.heap.size w w'
theorem own_tabs {wr : World} {base : Nat} {m : Int} {xs : List Pl.Pu} {n g cap : Nat} (h : wr.ownsRow base 51 4 (.slice (some ⟨g, 0, none⟩) n cap) n (flT m xs n)) {j : Nat} (hj : j < n) :
    wr.cell? ⟨g, j * 4, none⟩ = some (.complex .f32 (iT m xs j).a (iT m xs j).b) ∧ wr.cell? ⟨g, j * 4 + 1, none⟩ = some (.complex .f32 (iT m xs j).c (iT m xs j).d) ∧ wr.cell? ⟨g, j * 4 + 2, none⟩ = some (.complex .f32 (iT m xs j).e (iT m xs j).f) ∧ wr.cell? ⟨g, j * 4 + 3, none⟩ = some (.complex .f32 (iT m xs j).g (iT m xs j).h) := by
  obtain ⟨g', cap', e, _, _, _, h4⟩ := own_tab h hj
  cases e
  exact h4
/-- What the program's loop keeps. -/
structure Ld (w : World) (B : Nat) (xs : List Pl.Pu) (k : Nat) (v : Value) (wr : World) : Prop where
  own : wr.ownsRow w.heap.size 22 1 v k (fvals (dvs xs k))
  hc : CalcAt wr B 0
  hg : w.grownBy wr (some B)
  hB : B < w.heap.size
theorem Ld.append {w wx w3 : World} {B : Nat} {xs : List Pl.Pu} {k : Nat} {v v' : Value} (h : Ld w B xs k v wx) (hown : w3.ownsRow w.heap.size 22 1 v' (k + 1) (fvals (dvs xs (k + 1)))) (hgrow : wx.grownBy w3 v.ownBlock) : Ld w B xs (k + 1) v' w3 := by
  have hB := h.hB
  have hne : v.ownBlock ≠ some B := fun e => by have := (h.own.lt B e).1; omega
  refine ⟨hown, (hgrow.block B h.hc.lt (fun e => hne e.symm)).trans h.hc, ⟨hgrow.os.trans h.hg.os, hgrow.tape.trans h.hg.tape, hgrow.output.trans h.hg.output, Nat.le_trans h.hg.size hgrow.size, fun k' h1 h2 => ?_⟩, hB⟩
  refine (hgrow.block k' (Nat.lt_of_lt_of_le h1 h.hg.size) (fun e => ?_)).trans (h.hg.block k' h1 h2)
  have := (h.own.lt k' e.symm).1
  omega
theorem Ld.alloc {w wx : World} {B : Nat} {xs : List Pl.Pu} {k : Nat} {v : Value} (h : Ld w B xs k v wx) (o : Obj) : Ld w B xs k v (wx.alloc o) := ⟨h.own.alloc o, calcAlloc h.hc o, grownAlloc h.hg o, h.hB⟩
theorem Ld.call {w wx w2 : World} {B : Nat} {xs : List Pl.Pu} {k : Nat} {v : Value} (h : Ld w B xs k v wx) (hc : CalcAt w2 B 0) (hg : wx.grownBy w2 (some B)) : Ld w B xs k v w2 := by
  have hB := h.hB
  exact ⟨h.own.kept hg (.inr fun e => by have := (h.own.lt B e).1; omega), hc, h.hg.trans hg, hB⟩
theorem drift_u (B : Nat) (t u : T8) (r : Nat) (hu : czT t = u) (hr : cz (drR t) = r) (h : limT 61 t) (w : World) (hC : CalcAt w B 0) :
    Calls Try.prog 65 #[.pointer (some ⟨B, 0, none⟩), .agg #[.complex .f32 u.a u.b, .complex .f32 u.c u.d, .complex .f32 u.e u.f, .complex .f32 u.g u.h]] w fun e w' => e = .returned (.float .f32 r) ∧ CalcAt w' B 0 ∧ w.grownBy w' (some B) := by
  subst hu hr
  exact drift_any B t h w hC
theorem own_low {w : World} {base base' n : Nat} {e : TypeId} {size : Nat} {v : Value} {xs : List Value} (h : w.ownsRow base e size v n xs) (hb : base' ≤ base) : w.ownsRow base' e size v n xs := by
  obtain ⟨hl, h | ⟨g, cap, cur, e', hg, rest⟩⟩ := h
  · exact ⟨hl, .inl h⟩
  · exact ⟨hl, .inr ⟨g, cap, cur, e', Nat.le_trans hb hg, rest⟩⟩
theorem own_slice {w : World} {base n : Nat} {e : TypeId} {size : Nat} {v : Value} {xs : List Value} (h : w.ownsRow base e size v n xs) (hn : n ≠ 0) : ∃ g cap, v = .slice (some ⟨g, 0, none⟩) n cap := by
  obtain ⟨_, ⟨rfl, h0⟩ | ⟨g, cap, cur, rfl, _⟩⟩ := h
  · exact absurd h0 hn
  · exact ⟨g, cap, rfl⟩
set_option maxRecDepth 100000 in
set_option maxHeartbeats 4000000 in
theorem implDrifts_yes (A : Option Addr) (c : Nat) (xs : List Pl.Pu) (w : World) (hs : Pl.isSeq xs = true) (hr : Pl.Rd w A xs) (hA : ∀ b off, A = some ⟨b, off, none⟩ → b < w.heap.size) :
    Calls Try.prog 31 #[.slice A xs.length c] w (MadeO (dvs xs (xs.length + 1)) 0 w) := by
  have hl := (hs_of hs).1
  have HR := Lib.hid hr; clear hr
  have HA := Lib.hid hA; clear hA
  have HS := Lib.hid hs
  have KS := Lib.hid (fun B w hw hr hA => tables_any B A c xs 0 w hw hs hr hA (by omega) (by omega))
  obtain ⟨i9, hi, hz0, hz1, hz2⟩ := info_parts info22
  have HI := Lib.hid hi; clear hi
  have HZ0 := Lib.hid hz0; clear hz0
  have HZ1 := Lib.hid hz1; clear hz1
  have HZ2 := Lib.hid hz2; clear hz2
  unfold MadeO
  rw [dvs_length]
  go_enter Try.func31, Try.ntmps31
  go_wp2_with (go_at_call 59; refine (Pl.implIsSequence_any _ _ _ _ (by omega) HR.out).mono ?_; rintro e w1 ⟨rfl, b1⟩; rw [hs]; have B1 := Lib.hid b1; have R1 := Lib.hid (HR.out.below b1); clear b1)
  clear hs
  refine (KS.out w1.heap.size _ (calc_new' w1) (R1.out.below ((Below.refl _ _).alloc (Nat.le_refl _) _)) (fun b off e => by have := HA.out b off e; have := B1.out.size; omega)).mono ?_
  rintro e w2 ⟨v, rfl, hT⟩
  have B2 := Lib.hid (show Below w.heap.size w w2 from (B1.out.alloc B1.out.size (.cells #[.int .i64 0] 67)).grown hT.hg (by have := B1.out.size; simp; omega) (fun g e => by cases e; exact B1.out.size))
  obtain ⟨g, cap, rfl⟩ := own_slice hT.own (by omega)
  have hgb : w1.heap.size < g ∧ g < w2.heap.size := by
    have := hT.own.lt g rfl
    simp at this
    omega
  have hO := Lib.hid hT.own
  have hC2 : CalcAt w2 w1.heap.size 0 := by have := hT.hc; rw [(iT0 xs xs.length).2] at this; exact this
  have L0 := Lib.hid (show Ld w2 w1.heap.size xs 0 (.slice none 0 0) w2 from ⟨⟨rfl, .inl ⟨rfl, rfl⟩⟩, hC2, World.grownBy.refl _ _, hC2.lt⟩)
  have hs1 : w.heap.size ≤ w1.heap.size := B1.out.size
  clear hT hC2 B1 R1 KS
  go_wp2
  go_loopw [5, 17] (fun v i wr => ∃ k : Nat, k ≤ xs.length + 1 ∧ i = .int .i64 k ∧ Ld w2 w1.heap.size xs k v wr) (fun _ i _ => xs.length + 1 - (intOf i).toNat)
  case atStart => exact ⟨0, Nat.zero_le _, rfl, L0.out⟩
  case round =>
    obtain ⟨k, hk, rfl, hL⟩ := hrel
    clear L0
    by_cases hlt : k < xs.length + 1
    · obtain ⟨t0, t1, t2, t3⟩ := own_tabs hO.out hlt
      have hblk := hL.hg.block g hgb.2 (fun e => by have := Option.some.inj e; omega)
      have hlim := sT_lim61 HS.out (show k ≤ xs.length by omega)
      obtain ⟨u, hu⟩ : ∃ u, czT (sT 0 xs k) = u := ⟨_, rfl⟩
      obtain ⟨r, hr⟩ : ∃ r, cz (drR (sT 0 xs k)) = r := ⟨_, rfl⟩
      have KD := Lib.hid (fun w hw => drift_u w1.heap.size (sT 0 xs k) u r hu hr hlim w hw)
      rw [(iT0 xs k).1, hu] at t0 t1 t2 t3
      have c0 : wr.cell? ⟨g, k * 4, none⟩ = some (.complex .f32 u.a u.b) := by rw [← t0]; simp [World.cell?, hblk]
      have c1 : wr.cell? ⟨g, k * 4 + 1, none⟩ = some (.complex .f32 u.c u.d) := by rw [← t1]; simp [World.cell?, hblk]
      have c2 : wr.cell? ⟨g, k * 4 + 2, none⟩ = some (.complex .f32 u.e u.f) := by rw [← t2]; simp [World.cell?, hblk]
      have c3 : wr.cell? ⟨g, k * 4 + 3, none⟩ = some (.complex .f32 u.g u.h) := by rw [← t3]; simp [World.cell?, hblk]
      have hdv : dv xs k = r := hr
      have HD := Lib.hid hdv; clear hdv hr hu hlim hblk t0 t1 t2 t3
      have LL := Lib.hid hL; clear hL
      have i0 : (0 : Int) ≤ (k : Int) := by omega
      have i1 : (k : Int) < ((xs.length + 1 : Nat) : Int) := by omega
      have i2 : (k : Int) < (xs.length : Int) + 1 := by omega
      have lt := World.block_lt_of_cell? wr ⟨g, k * 4, none⟩ c0
      have L1 := Lib.hid (LL.out.alloc (.cells #[.complex .f32 u.a u.b, .complex .f32 u.c u.d, .complex .f32 u.e u.f, .complex .f32 u.g u.h] 51))
      go_wp2_with fail
      refine (KD.out _ L1.out.hc).mono ?_
      rintro e w5 ⟨rfl, hc, hg⟩
      have L5 := Lib.hid (L1.out.call hc hg)
      clear hc hg c0 c1 c2 c3 lt LL L1
      have hsz := L5.out.hg.size
      have L6 := Lib.hid (L5.out.alloc (.cells #[.float .f32 r] 22))
      go_wp2_with (at_builtin; refine wpList_append_own _ rfl _ _ 41 rfl w2.heap.size 22 i9 (.float .f32 0) 1 4 Try.underlying41 HI.out HZ0.out HZ1.out HZ2.out rfl (by decide) _ _ _ rfl L6.out.own ⟨w5.heap.size, 0, none⟩ 1 1 [.float .f32 r] rfl rfl ?c1 ?c2 ?c3 ?c4 ?c5 ?_)
      case c1 =>
        intro j u hj
        match j, hj with
        | 0, hj => cases hj; exact cell_first w5 _ _
      case c2 => intro u hu; simp at hu; subst hu; rfl
      case c3 => unfold maxLen; omega
      case c4 => omega
      case c5 => simp; omega
      intro v' w7 hown' hgrow _
      rw [← HD.out, ← dvs_succ] at hown'
      have L7 := Lib.hid (L6.out.append hown' hgrow)
      clear hown' hgrow L5 L6
      go_wp2
      exact ⟨⟨k + 1, by omega, by go_num, L7.out⟩, by simp [intOf]; omega⟩
    · obtain rfl : k = xs.length + 1 := by omega
      obtain ⟨g', cap', rfl⟩ := own_slice hL.own (by omega)
      have LL := Lib.hid hL; clear hL
      have hno' : ((xs.length + 1 : Nat) : Int) = (xs.length : Int) + 1 := by omega
      go_wp2_with (go_at_call 53; refine (toldFs_any _ _ _ _ _ LL.out.hc).mono ?_; rintro e w' ⟨rfl, rfl⟩)
      have BB := Lib.hid (B2.out.grown LL.out.hg B2.out.size (fun g e => by cases e; exact hs1))
      go_ret2
      exact ⟨_, rfl, own_low LL.out.own B2.out.size, BB.out⟩
theorem implDrifts_no (A : Option Addr) (c : Nat) (xs : List Pl.Pu) (w : World) (hn : xs.length ≤ 1048576) (hs : Pl.isSeq xs = false) (hr : Pl.Rd w A xs) :
    Calls Try.prog 31 #[.slice A xs.length c] w fun e w' => e = .returned (.tuple #[.slice none 0 0, .int .i64 1]) ∧ Below w.heap.size w w' := by
  have HR := Lib.hid hr; clear hr
  go_enter Try.func31, Try.ntmps31
  go_wp2_with (go_at_call 59; refine (Pl.implIsSequence_any _ _ _ _ hn HR.out).mono ?_; rintro e w1 ⟨rfl, b1⟩; rw [hs]; have B1 := Lib.hid b1; clear b1)
  go_ret2
  exact ⟨rfl, B1.out⟩
theorem implDrifts_any (A : Option Addr) (c : Nat) (xs : List Pl.Pu) (w : World) (hn : xs.length ≤ 1048576) (hr : Pl.Rd w A xs) (hA : ∀ b off, A = some ⟨b, off, none⟩ → b < w.heap.size) :
    Calls Try.prog 31 #[.slice A xs.length c] w (MadeO (drL xs) (drC xs) w) := by
  unfold drL drC
  cases hs : Pl.isSeq xs with
  | true => exact implDrifts_yes A c xs w hs hr hA
  | false =>
    refine (implDrifts_no A c xs w hn hs hr).mono ?_
    rintro e w' ⟨rfl, b⟩
    exact ⟨_, rfl, ⟨rfl, .inl ⟨rfl, rfl⟩⟩, b⟩
end Go.Proofs.Ytkfahacnanlnfaa
