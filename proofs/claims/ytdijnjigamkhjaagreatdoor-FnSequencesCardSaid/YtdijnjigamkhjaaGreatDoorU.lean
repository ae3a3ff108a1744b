/- Walks: the program reads a sequence. -/
import Derived.Test.YtdijnjigamkhjaaGreatDoorT
namespace Go.Proofs.YtdijnjigamkhjaaGreatDoor
open Go.RowKit
attribute [local go_sem] Oper.semAt_some

/-- strings.SplitSeq's closure over three new boxes. -/
def SqPost (S : ByteArray) (w : World) (e : Ending) (w' : World) : Prop :=
  e = .returned (.func (.func 82) #[] #[.pointer (some ⟨w.heap.size + 1, 0, none⟩), .pointer (some ⟨w.heap.size, 0, none⟩), .pointer (some ⟨w.heap.size + 2, 0, none⟩)]) ∧ Bx w' w.heap.size (w.heap.size + 1) (w.heap.size + 2) S ∧ Below w.heap.size w w' ∧ w'.heap.size = w.heap.size + 3
theorem splitSeq_any (S : ByteArray) (w : World) : Calls Tryz.prog 57 #[.string S, .string ⟨#[32]⟩] w (SqPost S w) := by
  obtain ⟨w3, hw3⟩ : ∃ w3, ((w.alloc (.cells #[.string S] 9)).alloc (.cells #[.string ⟨#[32]⟩] 9)).alloc (.cells #[.int .i64 0] 3) = w3 := ⟨_, rfl⟩
  have hP : SqPost S w (.returned (.func (.func 82) #[] #[.pointer (some ⟨w.heap.size + 1, 0, none⟩), .pointer (some ⟨w.heap.size, 0, none⟩), .pointer (some ⟨w.heap.size + 2, 0, none⟩)])) w3 := by
    rw [← hw3]
    refine ⟨rfl, ⟨?_, ?_, ?_⟩, ((((Below.refl _ w).alloc (Nat.le_refl _) _).alloc (by simp) _).alloc (by simp; omega) _), by simp⟩
    · exact (Below.heap_alloc _ _ _ (by simp; omega)).trans ((Below.heap_alloc _ _ _ (by simp)).trans (heap_alloc_new w _))
    · have := heap_alloc_new (w.alloc (.cells #[.string S] 9)) (.cells #[.string ⟨#[32]⟩] 9)
      rw [World.size_alloc] at this
      exact (Below.heap_alloc _ _ _ (by simp)).trans this
    · have := heap_alloc_new ((w.alloc (.cells #[.string S] 9)).alloc (.cells #[.string ⟨#[32]⟩] 9)) (.cells #[.int .i64 0] 3)
      rw [World.size_alloc, World.size_alloc] at this
      exact this
  have HP := Lib.hid hP
  have HW := Lib.hid hw3
  clear hP hw3
  have K42 := Lib.hid (show Calls Tryz.prog 71 #[.string S, .string ⟨#[32]⟩, .int .i64 0] w fun e w' => e = .returned (.func (.func 82) #[] #[.pointer (some ⟨w.heap.size + 1, 0, none⟩), .pointer (some ⟨w.heap.size, 0, none⟩), .pointer (some ⟨w.heap.size + 2, 0, none⟩)]) ∧ w' = w3 by
    go_enter Tryz.func71, Tryz.ntmps71
    go_wp2
    go_ret
    exact ⟨by simp, HW.out⟩)
  go_enter Tryz.func57, Tryz.ntmps57
  go_wp2_with fail
  refine K42.out.mono ?_
  rintro e w' ⟨rfl, rfl⟩
  go_wp2
  go_ret
  exact HP.out
theorem readSeq_none (w : World) : Calls Tryz.prog 35 #[.string ⟨([] : List UInt8).toArray⟩] w (RdPost [] w) := by
  have he : (⟨([] : List UInt8).toArray⟩ : ByteArray).toList.isEmpty = true := by rw [toList_list]; rfl
  have B0 := Lib.hid (((Below.refl w.heap.size w).alloc (Nat.le_refl _) (.cells #[.slice none 0 0] 24)).alloc (by simp) (.cells #[.bool true] 4))
  have e1 : (readL []).isSome = true := rfl
  have e2 : prV [] = [] := rfl
  unfold RdPost
  rw [e1, e2]
  generalize (⟨([] : List UInt8).toArray⟩ : ByteArray) = S at *
  go_enter Tryz.func35, Tryz.ntmps35
  go_wp2
  refine bodyPost_ret (v := .tuple #[.slice none 0 0, .bool true]) (by simp [results, Tryz.results35, go_sem]) rfl ?_
  exact ⟨_, rfl, .inl ⟨rfl, rfl⟩, B0.out⟩
theorem Own.not_block {w : World} {base k : Nat} {v : Value} {xs : List Pu} (h : Own w base v xs) (hk : ∀ cs fr, w.heap[k]? ≠ some (.cells cs 43 fr)) : v.ownBlock ≠ some k := by
  intro e
  rcases h with ⟨rfl, rfl⟩ | ⟨G, cap, more, rfl, hG, hr, _⟩
  · cases e
  · have e' : G = k := Option.some.inj e
    subst e'
    exact hk _ _ hr
theorem Own.lk {S base : Nat} {W W' : World} {v : Value} {xs : List Pu} (h : Own W base v xs) (hl : Lk S W W') : Own W' base v xs := by
  rcases h with h | ⟨G, cap, more, e, hG, hr, rest⟩
  · exact .inl h
  · refine .inr ⟨G, cap, more, e, hG, hr.keep (hl.block G hr.lt ?_ ?_ ?_), rest⟩
    · rintro rfl; exact hl.no _ _ _ (.inl rfl) hr
    · rintro rfl; exact hl.no _ _ _ (.inr (.inl rfl)) hr
    · rintro rfl; exact hl.no _ _ _ (.inr (.inr rfl)) hr
/-- The two results' boxes, and that nothing below has turned. -/
structure Rx (w : World) (W : World) : Prop where
  b0 : W.heap[w.heap.size]? = some (.cells #[.slice none 0 0] 24 (0, 0))
  b1 : W.heap[w.heap.size + 1]? = some (.cells #[.bool false] 4 (0, 0))
  bel : Below w.heap.size w W
/-- Between two words: the list's box too. -/
structure Ir (w : World) (ps : List Pu) (v : Value) (W : World) : Prop where
  own : Own W w.heap.size v ps
  b2 : W.heap[w.heap.size + 2]? = some (.cells #[v] 24 (0, 0))
  rx : Rx w W
theorem heap_lt {W : World} {k : Nat} {o : Obj} (h : W.heap[k]? = some o) : k < W.heap.size := (Array.getElem?_eq_some_iff.1 h).1
theorem Rx.lk {w W W' : World} (h : Rx w W) (hl : Lk (w.heap.size + 3) W W') : Rx w W' :=
  ⟨(hl.block _ (heap_lt h.b0) (by omega) (by omega) (by omega)).trans h.b0, (hl.block _ (heap_lt h.b1) (by omega) (by omega) (by omega)).trans h.b1, h.bel.trans (hl.below.mono (by omega))⟩
theorem Ir.lk {w W W' : World} {ps : List Pu} {v : Value} (h : Ir w ps v W) (hl : Lk (w.heap.size + 3) W W') : Ir w ps v W' :=
  ⟨h.own.lk hl, (hl.block _ (heap_lt h.b2) (by omega) (by omega) (by omega)).trans h.b2, h.rx.lk hl⟩
theorem Rx.below {w W W' : World} (h : Rx w W) (hb : Below W.heap.size W W') : Rx w W' :=
  ⟨(hb.block _ (heap_lt h.b0)).trans h.b0, (hb.block _ (heap_lt h.b1)).trans h.b1, h.bel.trans (hb.mono h.bel.size)⟩
theorem Ir.below {w W W' : World} {ps : List Pu} {v : Value} (h : Ir w ps v W) (hb : Below W.heap.size W W') : Ir w ps v W' :=
  ⟨h.own.below hb, (hb.block _ (heap_lt h.b2)).trans h.b2, h.rx.below hb⟩
/-- Behind the append and the store into the list's box. -/
theorem Ir.appended {w W W' : World} {ps : List Pu} {v v' : Value} {p : Pu} (h : Ir w ps v W) (hg : W.grownBy W' v.ownBlock) (ho : Own W' w.heap.size v' (ps ++ [p])) : Ir w (ps ++ [p]) v' (W'.setCell ⟨w.heap.size + 2, 0, none⟩ v') := by
  have k0 := hg.block _ (heap_lt h.rx.b0) (fun e => h.own.not_block (by intro cs fr hx; rw [h.rx.b0] at hx; cases hx) e.symm)
  have k1 := hg.block _ (heap_lt h.rx.b1) (fun e => h.own.not_block (by intro cs fr hx; rw [h.rx.b1] at hx; cases hx) e.symm)
  have k2 := hg.block _ (heap_lt h.b2) (fun e => h.own.not_block (by intro cs fr hx; rw [h.b2] at hx; cases hx) e.symm)
  have c2 := k2.trans h.b2
  have hn : v'.ownBlock ≠ some (w.heap.size + 2) := ho.not_block (by intro cs fr hx; rw [c2] at hx; cases hx)
  refine ⟨?_, one_set _ c2, (Below.heap_setCell _ _ _ _ (by simp)).trans (k0.trans h.rx.b0), (Below.heap_setCell _ _ _ _ (by simp)).trans (k1.trans h.rx.b1), ?_⟩
  · rcases ho with h1 | ⟨G, cap, more, rfl, hG, hr, rest⟩
    · exact .inl h1
    · exact .inr ⟨G, cap, more, rfl, hG, hr.other (fun e => hn (by rw [← show G = w.heap.size + 2 from e]; rfl)) _, rest⟩
  · exact (h.rx.bel.grown hg h.rx.bel.size (fun g e => (h.own.lt' g e).1)).setCell (by simp) _
/-- The plain side of one step. -/
theorem readL_bad {l y : List UInt8} {pre : List (List UInt8)} (h0 : l ≠ []) (hp : pre ++ [y] <+: spl l) (hy : spw y = none) : readL l = none := by
  obtain ⟨more, hm⟩ := hp
  unfold readL
  rw [if_neg h0]
  split
  · rfl
  · rw [← hm]
    apply seqOf_none
    rw [seqOf_snoc, hy]
    cases seqOf pre <;> rfl
theorem readL_many {l y : List UInt8} {pre : List (List UInt8)} (h0 : l ≠ []) (hp : pre ++ [y] <+: spl l) (hn : pre.length = 60) : readL l = none := by
  unfold readL
  have := hp.length_le
  simp at this
  rw [if_neg h0, if_pos (by omega)]
theorem readL_done {l : List UInt8} {ps : List Pu} (h0 : l ≠ []) (hs : seqOf (spl l) = some ps) (hn : ps.length ≤ 60) : readL l = some ps := by
  have := seqOf_length hs
  unfold readL
  rw [if_neg h0, if_neg (by omega), hs]
theorem Own.keep {w W : World} {base : Nat} {v : Value} {xs : List Pu} (h : Own w base v xs) (hk : ∀ g, v.ownBlock = some g → W.heap[g]? = w.heap[g]?) : Own W base v xs := by
  rcases h with h | ⟨G, cap, more, rfl, hG, hr, rest⟩
  · exact .inl h
  · exact .inr ⟨G, cap, more, rfl, hG, hr.keep (hk G rfl), rest⟩
/-- The end: the results stored, the block for deferred calls shut. -/
structure Fin (w : World) (u0 u1 : Value) (W : World) : Prop where
  d : W.heap[w.heap.size + 3 + 3]? = some (.deferred (some []))
  c0 : (W.putObj (w.heap.size + 3 + 3) (.deferred none)).cell? ⟨w.heap.size, 0, none⟩ = some u0
  c1 : (W.putObj (w.heap.size + 3 + 3) (.deferred none)).cell? ⟨w.heap.size + 1, 0, none⟩ = some u1
  bel : Below w.heap.size w (W.putObj (w.heap.size + 3 + 3) (.deferred none))
theorem fin_of {w W : World} {u0 u1 : Value} (h0 : W.heap[w.heap.size]? = some (.cells #[u0] 24 (0, 0))) (h1 : W.heap[w.heap.size + 1]? = some (.cells #[u1] 4 (0, 0))) (hb : Below w.heap.size w W) (hd : W.heap[w.heap.size + 3 + 3]? = some (.deferred (some []))) : Fin w u0 u1 W :=
  ⟨hd, (one_cell ((World.putObj_heap_other (by omega)).trans h0)).1, (one_cell ((World.putObj_heap_other (by omega)).trans h1)).1, hb.grown (grownBy_putObj' W _ _) hb.size (fun k e => by cases e; omega)⟩
theorem Ir.fin {w W : World} {ps : List Pu} {v : Value} (h : Ir w ps v W) (hd : W.heap[w.heap.size + 3 + 3]? = some (.deferred (some []))) :
    Fin w v (.bool true) ((W.setCell ⟨w.heap.size, 0, none⟩ v).setCell ⟨w.heap.size + 1, 0, none⟩ (.bool true)) ∧ Own (((W.setCell ⟨w.heap.size, 0, none⟩ v).setCell ⟨w.heap.size + 1, 0, none⟩ (.bool true)).putObj (w.heap.size + 3 + 3) (.deferred none)) w.heap.size v ps := by
  refine ⟨fin_of ((Below.heap_setCell _ _ _ _ (by simp)).trans (one_set _ h.rx.b0)) (one_set _ ((Below.heap_setCell _ _ _ _ (by simp)).trans h.rx.b1)) ((h.rx.bel.setCell (Nat.le_refl _) _).setCell (by simp) _) ((Below.heap_setCell _ _ _ _ (by simp)).trans ((Below.heap_setCell _ _ _ _ (by simp; omega)).trans hd)), ?_⟩
  refine h.own.keep fun g hg => ?_
  have n0 : g ≠ w.heap.size := fun e => h.own.not_block (by intro cs fr hx; rw [h.rx.b0] at hx; cases hx) (e ▸ hg)
  have n1 : g ≠ w.heap.size + 1 := fun e => h.own.not_block (by intro cs fr hx; rw [h.rx.b1] at hx; cases hx) (e ▸ hg)
  have n2 : g ≠ w.heap.size + 3 + 3 := fun e => h.own.not_block (by intro cs fr hx; rw [hd] at hx; cases hx) (e ▸ hg)
  exact (World.putObj_heap_other n2).trans ((Below.heap_setCell _ _ _ _ n1).trans (Below.heap_setCell _ _ _ _ n0))
theorem Rx.same {w W : World} (h : Rx w W) : Rx w ((W.setCell ⟨w.heap.size, 0, none⟩ (.slice none 0 0)).setCell ⟨w.heap.size + 1, 0, none⟩ (.bool false)) :=
  ⟨(Below.heap_setCell _ _ _ _ (by simp)).trans (one_set _ h.b0), one_set _ ((Below.heap_setCell _ _ _ _ (by simp)).trans h.b1), (h.bel.setCell (Nat.le_refl _) _).setCell (by simp) _⟩
set_option maxRecDepth 100000 in
set_option maxHeartbeats 4000000 in
theorem readSeq_some (l : List UInt8) (w : World) (hl : l.length ≤ 1099511627776) (h0 : l ≠ []) (hev : Ev w) : Calls Tryz.prog 35 #[.string ⟨l.toArray⟩] w (RdPost l w) := by
  have he : (⟨l.toArray⟩ : ByteArray).toList.isEmpty = false := by rw [toList_list]; cases l with | nil => exact absurd rfl h0 | cons c r => rfl
  have KS := Lib.hid (fun w => splitSeq_any ⟨l.toArray⟩ w)
  obtain ⟨w3, hw3⟩ : ∃ w3, ((w.alloc (.cells #[.slice none 0 0] 24)).alloc (.cells #[.bool false] 4)).alloc (.cells #[.slice none 0 0] 24) = w3 := ⟨_, rfl⟩
  have I3 : Ir w [] (.slice none 0 0) w3 := by
    rw [← hw3]
    refine ⟨.inl ⟨rfl, rfl⟩, ?_, ?_, ?_, ((((Below.refl _ w).alloc (Nat.le_refl _) _).alloc (by simp) _).alloc (by simp; omega) _)⟩
    · have := heap_alloc_new ((w.alloc (.cells #[.slice none 0 0] 24)).alloc (.cells #[.bool false] 4)) (.cells #[.slice none 0 0] 24)
      rw [World.size_alloc, World.size_alloc] at this
      exact this
    · exact (Below.heap_alloc _ _ _ (by simp; omega)).trans ((Below.heap_alloc _ _ _ (by simp)).trans (heap_alloc_new w _))
    · have := heap_alloc_new (w.alloc (.cells #[.slice none 0 0] 24)) (.cells #[.bool false] 4)
      rw [World.size_alloc] at this
      exact (Below.heap_alloc _ _ _ (by simp)).trans this
  have hsz3 : w3.heap.size = w.heap.size + 3 := by rw [← hw3]; simp
  have HW := Lib.hid hw3
  clear hw3
  unfold RdPost SqPost at *
  generalize hS : (⟨l.toArray⟩ : ByteArray) = S at *
  refine callsIn_wide (n := 9) |>.1 ?_
  refine callsIn_of_wp_marks Tryz.func35 rfl trivial ?_ rfl
  simp only [Tryz.ntmps35, List.size_toArray, List.length_cons, List.length_nil, Nat.reduceAdd, Nat.reduceSub, Array.replicate_succ, Array.replicate_zero, List.push_toArray, List.append_toArray, List.nil_append, List.cons_append]
  gi_wp2_with fail
  rw [HW.out]
  refine ⟨trivial, (callsIn_wide.2 (KS.out _)).mono ?_⟩
  rintro e w4 ⟨rfl, hb4, b4, hsz4⟩
  rw [hsz3] at hb4 hsz4 ⊢
  have I4 : Ir w [] (.slice none 0 0) w4 := I3.below b4
  clear b4 I3 HW KS he hsz3
  gi_wp2
  refine range_words (n := 9) (S := w.heap.size + 3) hl rfl (by rw [hS]; exact hb4) hsz4
    (fun pre W => ∃ ps v, seqOf pre = some ps ∧ ps.length ≤ 60 ∧ Ir w ps v W) (fun W => readL l = none ∧ Rx w W)
    (fun pre W W' hk ⟨ps, v, h1, h2, h3⟩ => ⟨ps, v, h1, h2, h3.lk hk⟩) (fun W W' hk ⟨h1, h2⟩ => ⟨h1, h2.lk hk⟩) ⟨[], _, rfl, Nat.zero_le _, I4⟩
    (fun y => { tmps := #[.string S, undef, .pointer (some ⟨w.heap.size, 0, none⟩), .pointer (some ⟨w.heap.size + 1, 0, none⟩), .pointer (some ⟨w.heap.size + 1 + 1, 0, none⟩), .string ⟨y.toArray⟩, undef, undef, .string S, .bool false, .string S, .func (.func 82) #[] #[.pointer (some ⟨w.heap.size + 3 + 1, 0, none⟩), .pointer (some ⟨w.heap.size + 3, 0, none⟩), .pointer (some ⟨w.heap.size + 3 + 2, 0, none⟩)], .string ⟨y.toArray⟩, undef, undef, undef, undef, undef, undef, undef, undef, undef, undef, undef, undef, undef, undef, undef, undef, undef], defers := [] }) ?assign ?body ?done ?stop
  case assign =>
    intro l y W K hK
    gi_wp2
    exact hK
  case body =>
    rintro lp r pre y W hpre ⟨ps, v, hps, hlen, hI⟩ hB
    have hyl : y.length ≤ 1099511627776 := Nat.le_trans (spl_mem (hpre.subset (by simp))) hl
    have hevW := hev.below hI.rx.bel
    have K34 := Lib.hid (readPulse_any y W hyl hevW)
    have hNW := heap_lt hB.l
    unfold RpPost Pu.val at K34
    generalize (⟨y.toArray⟩ : ByteArray) = Y at *
    gi_wp2_with fail
    refine ⟨trivial, (CallsIn.inRound lp (callsIn_wide.2 K34.out)).mono ?_⟩
    rintro e w1 ⟨p, ok, rfl, hsp, b1⟩
    have I5 := (hI.below b1).below ((Below.refl _ _).alloc (Nat.le_refl _) (.cells #[.int .i64 p.a, .int .i64 p.h, .bool p.b] 43))
    have P5 := pb_new w1 p.a p.h p.b
    have hsz1 := b1.size
    have hk5 : ∀ k, w.heap.size + 3 ≤ k → k ≤ w.heap.size + 3 + 4 → (w1.alloc (.cells #[.int .i64 p.a, .int .i64 p.h, .bool p.b] 43)).heap[k]? = W.heap[k]? := fun k _ h2 =>
      (Below.heap_alloc _ _ _ (by omega)).trans (b1.block k (by omega))
    obtain ⟨c0, f0⟩ := one_cell I5.rx.b0
    obtain ⟨c1, f1⟩ := one_cell I5.rx.b1
    obtain ⟨c2, f2⟩ := one_cell (show (w1.alloc (.cells #[.int .i64 p.a, .int .i64 p.h, .bool p.b] 43)).heap[w.heap.size + 1 + 1]? = _ from I5.b2)
    obtain ⟨q0, q1, q2⟩ := P5.cells
    have HB := Lib.hid hB
    have HI := Lib.hid I5
    have HK := Lib.hid hk5
    obtain ⟨A, cp, hv, _⟩ := hI.own.rd
    subst hv
    clear K34 b1 hI hB hyl hevW I5 hk5
    cases ok with
    | false =>
      have hbad := Lib.hid (readL_bad h0 hpre hsp)
      gi_wp2
      exact ⟨fun k h1 h2 => (Below.heap_setCell _ _ _ _ (by simp; omega)).trans ((Below.heap_setCell _ _ _ _ (by simp; omega)).trans (HK.out k h1 h2)), hbad.out, HI.out.rx.same⟩
    | true =>
      have hsp' : spw y = some p := hsp
      have hpl : ps.length = pre.length := seqOf_length hps
      by_cases h60 : ps.length = 60
      · have hbad := Lib.hid (readL_many h0 hpre (by omega))
        have e60 : (ps.length : Int) = 60 := by omega
        gi_wp2
        exact ⟨fun k h1 h2 => (Below.heap_setCell _ _ _ _ (by simp; omega)).trans ((Below.heap_setCell _ _ _ _ (by simp; omega)).trans (HK.out k h1 h2)), hbad.out, HI.out.rx.same⟩
      · have e60 : ¬ (ps.length : Int) = 60 := by omega
        have HS := Lib.hid (show seqOf (pre ++ [y]) = some (ps ++ [p]) by rw [seqOf_snoc, hps, hsp'])
        obtain ⟨w5, hw5⟩ : ∃ w5, w1.alloc (.cells #[.int .i64 p.a, .int .i64 p.h, .bool p.b] 43) = w5 := ⟨_, rfl⟩
        have hsz5 : w5.heap.size = w1.heap.size + 1 := by rw [← hw5]; simp
        have HI6 := Lib.hid ((hw5 ▸ HI.out : Ir w ps _ w5).below ((Below.refl _ _).alloc (Nat.le_refl _) (.cells #[.int .i64 p.a, .int .i64 p.h, .bool p.b] 43)))
        have HK6 := Lib.hid (show ∀ k, w.heap.size + 3 ≤ k → k ≤ w.heap.size + 3 + 4 → (w5.alloc (.cells #[.int .i64 p.a, .int .i64 p.h, .bool p.b] 43)).heap[k]? = W.heap[k]? from fun k h1 h2 =>
          (Below.heap_alloc _ _ _ (by omega)).trans (hw5 ▸ HK.out k h1 h2))
        rw [hw5] at c0 f0 c1 f1 c2 f2 q0 q1 q2
        have hW5 := Lib.hid hw5
        clear hpre hsp hsp' hps HI HK P5 hw5
        obtain ⟨i0, hi, hz0, hz1, hz2⟩ := info_parts info43
        have HI0 := Lib.hid hi; clear hi
        have HZ0 := Lib.hid hz0; clear hz0
        have HZ1 := Lib.hid hz1; clear hz1
        have HZ2 := Lib.hid hz2; clear hz2
        have hb6 := HI6.out.rx.bel.size
        have hle : ps.length ≤ 59 := by omega
        have H5 := Lib.hid hsz5
        have P6 := Lib.hid (pb_new w5 p.a p.h p.b)
        clear hpl hsz5 h60 hlen
        gi_wp2_with (first
          | rw [hW5.out]
          | (gi_at_builtin; refine wpListIn_append_own _ rfl _ _ 24 rfl w.heap.size 43 i0 (.agg #[.int .i64 0, .int .i64 0, .bool false]) 3 24 Tryz.underlying24 HI0.out HZ0.out HZ1.out HZ2.out rfl (by decide) _ _ _ rfl HI6.out.own.row ⟨w5.heap.size, 0, none⟩ 1 1 [.int .i64 p.a, .int .i64 p.h, .bool p.b] rfl rfl ?c1 ?c2 ?c3 ?c4 ?c5 ?_))
        case c1 =>
          intro j u hj
          have hP := P6.out.cells
          rw [addr_plus, Nat.zero_add]
          match j, hj with
          | 0, hj => cases hj; exact hP.1
          | 1, hj => cases hj; exact hP.2.1
          | 2, hj => cases hj; exact hP.2.2
        case c2 =>
          intro u hu
          simp only [List.mem_cons, List.not_mem_nil, or_false] at hu
          rcases hu with rfl | rfl | rfl <;> rfl
        case c3 => unfold maxLen; omega
        case c4 => omega
        case c5 => exact hb6
        intro v' w7 hown' hgrow _
        obtain ⟨g', cap', rfl⟩ := ownsRow_succ hown'
        have hO := Own.append (ps := ps) (p := p) hown'
        have I7 := Lib.hid (HI6.out.appended hgrow hO)
        have K7 := Lib.hid (show ∀ k, w.heap.size + 3 ≤ k → k ≤ w.heap.size + 3 + 4 → w7.heap[k]? = W.heap[k]? from fun k h1 h2 => by
          have hlt : k < (w5.alloc (.cells #[.int .i64 p.a, .int .i64 p.h, .bool p.b] 43)).heap.size := by
            have := H5.out
            simp
            omega
          exact (hgrow.block k hlt (fun e => HI6.out.own.not_block (fun cs fr hx => HB.out.not37 k cs fr h1 h2 ((HK6.out k h1 h2).symm.trans hx)) e.symm)).trans (HK6.out k h1 h2))
        have c7 := (hgrow.block _ (heap_lt HI6.out.b2) (fun e => HI6.out.own.not_block (by intro cs fr hx; rw [HI6.out.b2] at hx; cases hx) e.symm)).trans HI6.out.b2
        obtain ⟨d2, g2⟩ := one_cell (show w7.heap[w.heap.size + 1 + 1]? = _ from c7)
        clear hown' hgrow hO c7
        gi_wp2
        exact ⟨fun k h1 h2 => (Below.heap_setCell _ _ _ _ (by simp; omega)).trans (K7.out k h1 h2), _, _, HS.out, by simp; omega, I7.out⟩
  case done =>
    rintro W ⟨ps, v, hps, hlen, hI⟩ hD
    have hr := readL_done h0 hps hlen
    have e1 : (readL l).isSome = true := by rw [hr]; rfl
    have e2 : prV l = ps := by unfold prV; rw [hr]; rfl
    obtain ⟨c0, f0⟩ := one_cell hI.rx.b0
    obtain ⟨c1, f1⟩ := one_cell hI.rx.b1
    obtain ⟨c2, f2⟩ := one_cell (show W.heap[w.heap.size + 1 + 1]? = _ from hI.b2)
    have HF := Lib.hid (hI.fin hD)
    obtain ⟨A, cp, hv, _⟩ := hI.own.rd
    subst hv
    have E1 := Lib.hid e1
    have E2 := Lib.hid e2
    clear e1 e2 hr hps hlen hI hD
    gi_wp2
    obtain ⟨hF, hO⟩ := HF.out
    refine ⟨by simp, .inl ⟨_, _, rfl, run_takeDeferred hF.d, ?_⟩⟩
    refine ⟨.tuple #[.slice A ps.length cp, .bool true], ?_, ?_⟩
    · have k0 := hF.c0
      have k1 := hF.c1
      simp [results, Tryz.results35, go_sem, k0, k1]
    · exact ⟨_, by rw [E1.out], by rw [E2.out]; exact hO, hF.bel⟩
  case stop =>
    rintro W ⟨hr, hx⟩ hD
    have e1 : (readL l).isSome = false := by rw [hr]; rfl
    have e2 : prV l = [] := by unfold prV; rw [hr]; rfl
    have HF := Lib.hid (fin_of hx.b0 hx.b1 hx.bel hD)
    have E1 := Lib.hid e1
    have E2 := Lib.hid e2
    clear e1 e2 hr hx hD
    gi_wp2
    have hF := HF.out
    refine ⟨by simp, .inl ⟨_, _, rfl, run_takeDeferred hF.d, ?_⟩⟩
    refine ⟨.tuple #[.slice none 0 0, .bool false], ?_, ?_⟩
    · have k0 := hF.c0
      have k1 := hF.c1
      simp [results, Tryz.results35, go_sem, k0, k1]
    · exact ⟨_, by rw [E1.out], .inl ⟨rfl, E2.out⟩, hF.bel⟩
theorem readSeq_any (l : List UInt8) (w : World) (hl : l.length ≤ 1099511627776) (hev : Ev w) : Calls Tryz.prog 35 #[.string ⟨l.toArray⟩] w (RdPost l w) := by
  by_cases h0 : l = []
  · subst h0; exact readSeq_none w
  · exact readSeq_some l w hl h0 hev
theorem implParse_any (l : List UInt8) (w : World) (hl : l.length ≤ 1099511627776) (hev : Ev w) : Calls Tryz.prog 10 #[.string ⟨l.toArray⟩] w (MadeP (prV l) (prC l) w) := by
  have KS := Lib.hid (readSeq_any l w hl hev)
  unfold RdPost MadeP at *
  obtain ⟨ok, hok⟩ : ∃ ok, (readL l).isSome = ok := ⟨_, rfl⟩
  obtain ⟨qs, hqs⟩ : ∃ qs, prV l = qs := ⟨_, rfl⟩
  have hc : prC l = if ok then 0 else 6 := by unfold prC; rw [hok]
  have hq0 : ok = false → qs = [] := by
    intro h
    rw [← hqs]; unfold prV
    cases hr : readL l with
    | none => rfl
    | some ps => rw [hr] at hok; rw [h] at hok; cases hok
  rw [hc, hqs]
  rw [hok, hqs] at KS
  have HQ := Lib.hid hq0
  clear hok hqs hc hq0 hl hev
  generalize (⟨l.toArray⟩ : ByteArray) = S at *
  cases ok with
  | true =>
    go_enter Tryz.func10, Tryz.ntmps10
    go_wp2_with fail
    refine KS.out.mono ?_
    rintro e w1 ⟨v1, rfl, o1, b1⟩
    have O1 := Lib.hid o1; have B1 := Lib.hid b1; clear o1 b1
    go_wp2
    go_ret2
    exact ⟨_, rfl, O1.out, B1.out⟩
  | false =>
    go_enter Tryz.func10, Tryz.ntmps10
    go_wp2_with fail
    refine KS.out.mono ?_
    rintro e w1 ⟨v1, rfl, o1, b1⟩
    have B1 := Lib.hid b1; clear o1 b1
    go_wp2
    go_ret2
    exact ⟨_, rfl, .inl ⟨rfl, HQ.out trivial⟩, B1.out⟩
end Go.Proofs.YtdijnjigamkhjaaGreatDoor
