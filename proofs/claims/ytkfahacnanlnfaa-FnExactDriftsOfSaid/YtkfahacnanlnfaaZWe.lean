/- Weights: the reference's walk to the end. -/
/- Weights: the program's walk; the law's. -/
import Derived.Test.YtkfahacnanlnfaaZWc
import Derived.WalkSmall
namespace Go.Proofs.Ytkfahacnanlnfaa
open Go.RowKit Ieee

theorem info22 : (Try.prog.info? 22).map (fun i => (i.zero, i.size, i.bytes)) = some (some (.float .f32 0), 1, 4) := by kernel_rfl
theorem info_parts {i : Option TypeInfo} {z : Value} {a b : Nat} (h : i.map (fun i => (i.zero, i.size, i.bytes)) = some (some z, a, b)) : ∃ j, i = some j ∧ j.zero = some z ∧ j.size = a ∧ j.bytes = b := by
  cases i with
  | none => cases h
  | some j => simp at h; exact ⟨j, rfl, h⟩
theorem ownsRow_below {w w' : World} {base n : Nat} {e : TypeId} {size : Nat} {v : Value} {xs : List Value} (h : w.ownsRow base e size v n xs) (hb : Below w.heap.size w w') : w'.ownsRow base e size v n xs := by
  obtain ⟨hl, h | ⟨g, cap, cur, e', hg, hh, rest⟩⟩ := h
  · exact ⟨hl, .inl h⟩
  · exact ⟨hl, .inr ⟨g, cap, cur, e', hg, (hb.block g (Array.getElem?_eq_some_iff.1 hh).1).trans hh, rest⟩⟩
theorem addr_plus (b o j : Nat) : (⟨b, o, none⟩ : Addr).add j = ⟨b, o + j, none⟩ := by unfold Addr.add; split <;> simp_all
theorem cell_first (w : World) (v : Value) (t : TypeId) : (w.alloc (.cells #[v] t)).cell? ⟨w.heap.size, 0, none⟩ = some v := by simp
/-- Floats without signs of zeros, as values. -/
def czs' (xs : List Nat) : List Value := xs.map fun x => .float .f32 (cz x)
theorem czs_snoc (xs : List Nat) (k : Nat) (x : Nat) (h : xs[k]? = some x) : czs' (xs.take (k + 1)) = czs' (xs.take k) ++ [.float .f32 (cz x)] := by
  have hk := (List.getElem?_eq_some_iff.1 h).1
  rw [List.getElem?_eq_getElem hk] at h
  unfold czs'
  rw [List.take_succ_eq_append_getElem hk, Option.some.inj h]
  simp
/-- The call hands back a slice of the floats ys. -/
def MadeF (ys : List Nat) (w : World) (e : Ending) (w' : World) : Prop := ∃ A c, e = .returned (.slice A ys.length c) ∧ FRd w' A ys ∧ Below w.heap.size w w'

set_option maxHeartbeats 1000000 in
theorem l00Floats_any (A : Option Addr) (c : Nat) (xs : List Nat) (w : World) (hn : xs.length ≤ 1024) (hr : FRd w A xs) :
    Calls Try.prog 48 #[.slice A xs.length c] w (MadeF (xs.map cz) w) := by
  have HR := Lib.hid hr; clear hr
  obtain ⟨i0, hi, hz0, hz1, hz2⟩ := info_parts info22
  have HI := Lib.hid hi; clear hi
  have HZ0 := Lib.hid hz0; clear hz0
  have HZ1 := Lib.hid hz1; clear hz1
  have HZ2 := Lib.hid hz2; clear hz2
  unfold MadeF
  go_enter Try.func48, Try.ntmps48
  go_wp2
  go_loopw [3, 4] (fun v i wr => ∃ k : Nat, k ≤ xs.length ∧ i = .int .i64 k ∧ wr.ownsRow w.heap.size 22 1 v k (czs' (xs.take k)) ∧ Below w.heap.size w wr) (fun _ i _ => xs.length - (intOf i).toNat)
  case atStart => exact ⟨0, Nat.zero_le _, rfl, ⟨rfl, .inr ⟨w.heap.size, 0, #[], rfl, Nat.le_refl _, heap_alloc_new w _, Nat.le_refl _, Nat.zero_le _, rfl, rfl⟩⟩, (Below.refl _ _).alloc (Nat.le_refl _) _⟩
  case round =>
    obtain ⟨k, hk, rfl, hown, hbw⟩ := hrel
    by_cases hlt : k < xs.length
    · obtain ⟨x, hx⟩ : ∃ x, xs[k]? = some x := ⟨_, List.getElem?_eq_getElem hlt⟩
      obtain ⟨b, off, rfl, hbl, h0⟩ := (HR.out.below hbw) k x hx
      have HX := Lib.hid hx; clear hx
      have HW := Lib.hid hown; clear hown
      have O2 := Lib.hid (ownsRow_below HW.out (Below.refl _ _))
      have B2 := Lib.hid hbw
      have hsz := hbw.size
      go_wp2_with (first | (go_at_call 34; refine (l00Float_any x _).mono ?_; rintro e w' ⟨rfl, rfl⟩) | (at_builtin; refine wpList_append_own _ rfl _ _ 41 rfl w.heap.size 22 i0 (.float .f32 0) 1 4 Try.underlying41 HI.out HZ0.out HZ1.out HZ2.out rfl (by decide) _ _ _ rfl (O2.out.alloc _) ⟨wr.heap.size, 0, none⟩ 1 1 [.float .f32 (cz x)] rfl rfl ?c1 ?c2 ?c3 ?c4 ?c5 ?_))
      case c1 =>
        intro j u hj
        match j, hj with
        | 0, hj => cases hj; exact cell_first wr _ _
      case c2 => intro u hu; simp at hu; subst hu; rfl
      case c3 => unfold maxLen; omega
      case c4 => omega
      case c5 => simp; omega
      intro v' w3 hown' hgrow _
      rw [← czs_snoc _ _ _ HX.out] at hown'
      have O3 := Lib.hid hown'
      have B3 := Lib.hid ((B2.out.alloc B2.out.size _).grown hgrow (B2.out.alloc B2.out.size _).size (fun k hk => (O2.out.lt k hk).1))
      clear hown' hgrow
      go_wp2
      exact ⟨⟨k + 1, by omega, by go_num, O3.out, B3.out⟩, by simp [intOf]; omega⟩
    · obtain rfl : k = xs.length := by omega
      rw [List.take_length] at hown
      have HW := Lib.hid hown
      obtain ⟨hl, ⟨rfl, h0⟩ | ⟨g, cap, cur, rfl, hg, hh, hc, hm, hs, ht⟩⟩ := hown
      · have e0 : xs = [] := List.eq_nil_of_length_eq_zero h0
        subst e0
        go_wp2
        go_ret
        exact ⟨_, _, rfl, fun k x h => by simp at h, hbw⟩
      · have hgl := (Array.getElem?_eq_some_iff.1 hh).1
        have hcells := HW.out.cells (g := g) rfl
        have hrd : FRd wr (some ⟨g, 0, none⟩) (xs.map cz) := by
          intro j x hx
          refine ⟨g, 0, rfl, hgl, ?_⟩
          have := hcells j (.float .f32 x) (by simp [czs'] at hx ⊢; exact hx)
          rw [addr_plus] at this
          exact this
        have HRD := Lib.hid hrd
        clear hrd hcells hl hh hs ht
        go_wp2
        go_ret
        exact ⟨some ⟨g, 0, none⟩, cap, by rw [List.length_map]; rfl, HRD.out, hbw⟩
/-- The call hands back a slice of the floats ys, and a code. -/
def MadeF2 (ys : List Nat) (k : Int) (w : World) (e : Ending) (w' : World) : Prop := ∃ A c, e = .returned (.tuple #[.slice A ys.length c, .int .i64 k]) ∧ FRd w' A ys ∧ Below w.heap.size w w'
theorem specWeights_yes (c : Nat) (w : World) (hf : fin32 c = true) (h0 : (single.order c 0 == some .lt) = false) (h2 : (single.order c 1073741824 == some .gt) = false) :
    Calls Try.prog 19 #[.float .f32 c] w (MadeF2 [cz (wtA c), cz (wtB c)] 0 w) := by
  have HS := Lib.hid (fun w => specWeights1_yes c w hf h0 h2)
  clear hf h0 h2
  unfold MadeF2
  go_enter Try.func19, Try.ntmps19
  go_wp2_with fail
  refine (HS.out _).mono ?_
  rintro e w1 ⟨B, rfl, hB, hR, b1⟩
  have R1 := Lib.hid hR.rd; clear hR
  have B1 := Lib.hid b1; clear b1
  go_wp2_with fail
  refine (l00Floats_any _ 2 [wtA c, wtB c] _ (by simp) R1.out).mono ?_
  rintro e w2 ⟨A, c', rfl, r2, b2⟩
  have R2 := Lib.hid r2; clear r2
  have B2 := Lib.hid (B1.out.trans (b2.mono B1.out.size)); clear b2
  go_wp2
  go_ret2
  exact ⟨_, _, rfl, R2.out, B2.out⟩
theorem specWeights_no (c : Nat) (w : World) (h : wtC c ≠ 0) :
    Calls Try.prog 19 #[.float .f32 c] w (MadeF2 [] (wtC c) w) := by
  have HS := Lib.hid (fun w => specWeights1_no c w h)
  clear h
  unfold MadeF2
  go_enter Try.func19, Try.ntmps19
  go_wp2_with fail
  refine (HS.out _).mono ?_
  rintro e w1 ⟨rfl, b1⟩
  have B1 := Lib.hid b1; clear b1
  go_wp2_with fail
  refine (l00Floats_any none 0 [] _ (by simp) (fun k x h => by simp at h)).mono ?_
  rintro e w2 ⟨A, c', rfl, r2, b2⟩
  have R2 := Lib.hid r2; clear r2
  have B2 := Lib.hid (B1.out.trans (b2.mono B1.out.size)); clear b2
  go_wp2
  go_ret2
  exact ⟨_, _, rfl, R2.out, B2.out⟩
end Go.Proofs.Ytkfahacnanlnfaa
namespace Go.Proofs.Ytkfahacnanlnfaa
open Go.RowKit Ieee

/-- A value that the calculation keeps, without failure. -/
theorem calc_ok {B x : Nat} {w : World} {e : Ending} {w' : World} (hx : fin32 x = true) (h : CalcPost B (stpC 0 x) (stpV 0 x) w e w') : CalcPost B 0 (cz x) w e w' := by
  rw [stpC_fin hx, stpV_fin hx] at h; exact h
theorem div_any (B a : Nat) (K : Int) (w : World) (h : CalcAt w B 0) (ha : lim single K a) (h1 : -148 ≤ K) (h2 : K ≤ 127) :
    Calls Try.prog 54 #[.pointer (some ⟨B, 0, none⟩), .float .f32 a, .float .f32 1073741824] w (CalcPost B 0 (cz (op32 .quo a 1073741824)) w) := by
  have HC := Lib.hid h; clear h
  have hop := run_half ha h1 h2
  have hl := (lim_half ha h1 h2).1.fin
  have ho : (FloatKind.f32.format.order 1073741824 0 == some .eq) = false := by decide +kernel
  generalize op32 .quo a 1073741824 = r at *
  go_enter Try.func54, Try.ntmps54
  go_wp2_with (first | (go_at_call 82; refine (round_any B 0 r _ HC.out).mono ?_; rintro e w2 hp; obtain ⟨rfl, hc2, hg⟩ := calc_ok hl hp) | (simp only [hop]))
  go_ret
  exact ⟨rfl, hc2, hg⟩
theorem toldFs_any (B n c : Nat) (A : Option Addr) (w : World) (h : CalcAt w B 0) : Calls Try.prog 53 #[.pointer (some ⟨B, 0, none⟩), .slice A n c] w fun e w' => e = .returned (.tuple #[.slice A n c, .int .i64 0]) ∧ w = w' := by
  have hc := h.cell
  clear h
  go_enter Try.func53, Try.ntmps53
  go_wp2
  go_ret2
  exact ⟨rfl, rfl⟩
/-- The greater of a number and 0. -/
def max0 (t : Nat) : Nat := match single.read t with | .number false (_ + 1) _ => t | _ => 0
theorem run_max0 (t : Nat) (h : fin32 t = true) (ts : Array TypeId) (ty : TypeId) (w : World) : (Builtin.max_ ts ty #[.float .f32 (cz t), .float .f32 0]).run Try.prog w = .ok (.float .f32 (max0 t)) w := by
  obtain ⟨s, m, e, hr⟩ := fin_iff.1 h
  obtain ⟨s', hr', hs⟩ := read_cz hr
  have ho : FloatKind.f32.format.order (cz t) 0 = _ := order_read hr'
  have hd : (FloatKind.f32.decode 0).neg = false := by decide +kernel
  cases m with
  | zero =>
    have hm : max0 t = 0 := by unfold max0; rw [hr]; cases s <;> rfl
    have hz : cz t = 0 := by unfold cz; rw [hr]; rfl
    rw [if_pos rfl] at ho
    rw [hz] at ho ⊢
    rw [hm]
    simp [Builtin.max_, Builtin.max2, ho, hd]
  | succ m =>
    obtain rfl : s' = s := by rcases hs with h | h; cases h; exact h
    have hc : cz t = t := by unfold cz; rw [hr]; rfl
    rw [if_neg (Nat.succ_ne_zero m)] at ho
    rw [hc] at ho ⊢
    cases s' with
    | true =>
      have hm : max0 t = 0 := by unfold max0; rw [hr]
      rw [if_pos rfl] at ho
      rw [hm]
      simp [Builtin.max_, Builtin.max2, ho]
    | false =>
      have hm : max0 t = t := by unfold max0; rw [hr]
      rw [if_neg (by decide)] at ho
      rw [hm]
      simp [Builtin.max_, Builtin.max2, ho]
theorem cz_root0 (t : Nat) (h : fin32 t = true) : cz (root0 t) = root0 t := by
  obtain ⟨s, m, e, hr⟩ := fin_iff.1 h
  have h0 : cz 0 = 0 := cz_zero
  unfold root0
  rw [hr]
  cases s with
  | true => exact h0
  | false =>
    cases m with
    | zero => exact h0
    | succ m =>
      obtain ⟨m', e', h1, h2, _⟩ := rtv_read hr (Nat.succ_ne_zero m)
      show cz (rtv t) = rtv t
      unfold cz
      rw [h1]
      cases m' with
      | zero => exact absurd rfl h2
      | succ m' => rfl
theorem calcRoot0 (t B : Nat) (h : fin32 t = true) (w : World) (hc : CalcAt w B 0) : Calls Try.prog 50 #[.pointer (some ⟨B, 0, none⟩), .float .f32 (max0 t)] w (CalcPost B 0 (root0 t) w) := by
  have hf := (root0_lim t h).fin
  have hz := cz_root0 t h
  obtain ⟨s, m, e, hr⟩ := fin_iff.1 h
  have hzero : max0 t = 0 → root0 t = 0 → Calls Try.prog 50 #[.pointer (some ⟨B, 0, none⟩), .float .f32 (max0 t)] w (CalcPost B 0 (root0 t) w) := by
    intro h1 h2
    rw [h1, h2]
    exact (calcRoot_zero B 0 w hc).mono fun e w' hp => by
      have := calc_ok (by decide +kernel) hp
      rwa [cz_zero] at this
  cases s with
  | true => exact hzero (by unfold max0; rw [hr]) (by unfold root0; rw [hr])
  | false =>
    cases m with
    | zero => exact hzero (by unfold max0; rw [hr]) (by unfold root0; rw [hr])
    | succ m =>
      have h1 : max0 t = t := by unfold max0; rw [hr]
      have h2 : root0 t = rtv t := by unfold root0; rw [hr]
      rw [h2] at hf hz ⊢
      rw [h1]
      refine (calcRoot_pos B 0 t _ _ w hc hr (Nat.succ_ne_zero m)).mono fun e w' hp => ?_
      have := calc_ok hf hp
      rwa [hz] at this

set_option maxHeartbeats 1000000 in
theorem implWeights_yes (c : Nat) (w : World) (hf : fin32 c = true) (h0 : (single.order c 0 == some .lt) = false) (h2 : (single.order c 1073741824 == some .gt) = false) :
    Calls Try.prog 20 #[.float .f32 c] w (TellsF (cz (wtA c)) (cz (wtB c)) w) := by
  have one := fin_one32
  have cone : cz 1065353216 = 1065353216 := by decide +kernel
  obtain ⟨l1, l2, l3, l4, l5, l6, l7⟩ := wt_lims (lim_two hf h0 h2).1
  have k1 := fun B w h => (mul_any B 0 c c w h hf hf)
  have q2 := op_fin (o := .sub) rfl one l1.fin
  rw [cone] at q2
  have k2 := fun B w h => (csub_any B 0 1065353216 (cz (op32 .mul c c)) w h one ((fin_cz _).trans l1.fin))
  have k3 := fun B w h => calcRoot0 (wtT c) B l2.fin w h
  have k4 := fun B w h => (add_any B 0 1065353216 (wtR c) w h one l3.fin)
  have k5 := fun B w h => (csub_any B 0 1065353216 (wtR c) w h one l3.fin)
  have k6 := fun B w h => div_any B _ 75 w h (lim_cz l4) (by decide) (by decide)
  have k7 := fun B w h => div_any B _ 75 w h (lim_cz l5) (by decide) (by decide)
  have e6 := (lim_half l4 (by decide) (by decide)).2.2.2
  have e7 := (lim_half l5 (by decide) (by decide)).2.2.2
  have hmx := run_max0 (wtT c) l2.fin
  have f1 := l1.fin
  have f2 : fin32 (op32 .sub 1065353216 (cz (op32 .mul c c))) = true := q2.2.2.2.1.symm.trans l2.fin
  have z2 : cz (op32 .sub 1065353216 (cz (op32 .mul c c))) = cz (wtT c) := q2.2.2.1.symm
  have f4 := l4.fin
  have f5 := l5.fin
  rw [← e6] at k6
  rw [← e7] at k7
  rw [show op32 .quo (op32 .add 1065353216 (wtR c)) 1073741824 = wtA c from rfl] at k6
  rw [show op32 .quo (op32 .sub 1065353216 (wtR c)) 1073741824 = wtB c from rfl] at k7
  rw [show root0 (wtT c) = wtR c from rfl] at k3
  clear e6 e7 q2 l1 l2 l3 l4 l5 l6 l7 one cone
  generalize wtA c = A at *
  generalize wtB c = D at *
  generalize wtR c = R at *
  generalize wtT c = T at *
  generalize op32 .mul c c = M at *
  generalize op32 .sub 1065353216 (cz M) = T' at *
  generalize op32 .add 1065353216 R = A1 at *
  generalize op32 .sub 1065353216 R = B1 at *
  change (FloatKind.f32.format.order c 0 == some .lt) = false at h0
  change (FloatKind.f32.format.order c 1073741824 == some .gt) = false at h2
  have K1 := Lib.hid k1; clear k1
  have K2 := Lib.hid k2; clear k2
  have K3 := Lib.hid k3; clear k3
  have K4 := Lib.hid k4; clear k4
  have K5 := Lib.hid k5; clear k5
  have K6 := Lib.hid k6; clear k6
  have K7 := Lib.hid k7; clear k7
  have HF := Lib.hid hf
  have F := Lib.hid (And.intro f1 (And.intro f2 (And.intro f4 f5))); clear f1 f2 f4 f5
  have Z2 := Lib.hid z2; clear z2
  unfold TellsF
  go_enter Try.func20, Try.ntmps20
  go_wp2_with fail
  refine (isNumber_any c _).mono ?_
  rintro e w1 ⟨rfl, b1⟩
  rw [hf]
  clear hf
  have B1 := Lib.hid b1; clear b1
  go_wp2_with fail
  refine (K1.out w1.heap.size _ (calc_new w1)).mono ?_
  rintro e w2 hp
  obtain ⟨rfl, c2, g2⟩ := calc_ok F.out.1 hp
  have B2 := Lib.hid ((B1.out.alloc B1.out.size _).grown g2 (by have := B1.out.size; simp; omega) (fun g e => by cases e; exact B1.out.size) : Below w.heap.size w w2)
  have C2 := Lib.hid c2; clear c2 g2 hp
  go_wp2_with fail
  refine (K2.out w1.heap.size _ C2.out).mono ?_
  rintro e w3 hp
  obtain ⟨rfl, c3, g3⟩ := calc_ok F.out.2.1 hp
  rw [Z2.out]
  have B3 := Lib.hid (B2.out.grown g3 B2.out.size (fun g e => by cases e; exact B1.out.size) : Below w.heap.size w w3)
  have C3 := Lib.hid c3; clear c3 g3 hp
  go_wp2_with (first | (simp only [hmx]) | fail)
  refine (K3.out w1.heap.size _ C3.out).mono ?_
  rintro e w4 ⟨rfl, c4, g4⟩
  have B4 := Lib.hid (B3.out.grown g4 B3.out.size (fun g e => by cases e; exact B1.out.size) : Below w.heap.size w w4)
  have C4 := Lib.hid c4; clear c4 g4
  clear hmx
  go_wp2_with fail
  refine (K4.out w1.heap.size _ C4.out).mono ?_
  rintro e w5 hp
  obtain ⟨rfl, c5, g5⟩ := calc_ok F.out.2.2.1 hp
  have B5 := Lib.hid (B4.out.grown g5 B4.out.size (fun g e => by cases e; exact B1.out.size) : Below w.heap.size w w5)
  have C5 := Lib.hid c5; clear c5 g5 hp
  go_wp2_with fail
  refine (K6.out w1.heap.size _ C5.out).mono ?_
  rintro e w6 ⟨rfl, c6, g6⟩
  have B6 := Lib.hid (B5.out.grown g6 B5.out.size (fun g e => by cases e; exact B1.out.size) : Below w.heap.size w w6)
  have C6 := Lib.hid c6; clear c6 g6
  go_wp2_with fail
  refine (K5.out w1.heap.size _ C6.out).mono ?_
  rintro e w7 hp
  obtain ⟨rfl, c7, g7⟩ := calc_ok F.out.2.2.2 hp
  have B7 := Lib.hid (B6.out.grown g7 B6.out.size (fun g e => by cases e; exact B1.out.size) : Below w.heap.size w w7)
  have C7 := Lib.hid c7; clear c7 g7 hp
  go_wp2_with fail
  refine (K7.out w1.heap.size _ C7.out).mono ?_
  rintro e w8 ⟨rfl, c8, g8⟩
  have B8 := Lib.hid (B7.out.grown g8 B7.out.size (fun g e => by cases e; exact B1.out.size) : Below w.heap.size w w8)
  have C8 := Lib.hid (c8.below ((Below.refl w8.heap.size w8).alloc (Nat.le_refl _) (.cells #[.float .f32 (cz A), .float .f32 (cz D)] 22)) c8.lt); clear c8 g8
  go_wp2_with fail
  refine (toldFs_any w1.heap.size _ _ _ _ C8.out).mono ?_
  rintro e w9 ⟨rfl, rfl⟩
  go_wp2
  go_ret2
  exact ⟨_, rfl, B8.out.size, frow_new _ _ _ _, B8.out.alloc B8.out.size _⟩
end Go.Proofs.Ytkfahacnanlnfaa
