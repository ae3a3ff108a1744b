/- Weights: the reference's walk to the end. -/
import Derived.Test.YtkfahacnanlnfaaWc
import Derived.WalkSmall
namespace Go.Proofs.Ytkfahacnanlnfaa
open Go.RowKit Ieee

theorem info22 : (Try.prog.info? 22).map (fun i => (i.zero, i.size, i.bytes)) = some (some (.float .f32 0), 1, 4) := by kernel_rfl
theorem info_parts {i : Option TypeInfo} {z : Value} {a b : Nat} (h : i.map (fun i => (i.zero, i.size, i.bytes)) = some (some z, a, b)) : ∃ j, i = some j ∧ j.zero = some z ∧ j.size = a ∧ j.bytes = b := by
  cases i with
  | none => cases h
  | some j => simp at h; exact ⟨j, rfl, h⟩
theorem ownsRow_below {w w' : World} {base n : Nat} {e : TypeId} {size : Nat} {v : Value} {xs : List Value} (h : w.ownsRow base e size v n xs) (hb : Below w.heap.size w w') : w'.ownsRow base e size v n xs := by
  obtain ⟨hl, h | ⟨g, cap, cur, e', hg, hh, rest⟩⟩ := h
  · exact ⟨hl, .inl h⟩
  · exact ⟨hl, .inr ⟨g, cap, cur, e', hg, (hb.block g (Array.getElem?_eq_some_iff.1 hh).1).trans hh, rest⟩⟩
theorem addr_plus (b o j : Nat) : (⟨b, o, none⟩ : Addr).add j = ⟨b, o + j, none⟩ := by unfold Addr.add; split <;> simp_all
theorem cell_first (w : World) (v : Value) (t : TypeId) : (w.alloc (.cells #[v] t)).cell? ⟨w.heap.size, 0, none⟩ = some v := by simp
/-- Floats without signs of zeros, as values. -/
def czs' (xs : List Nat) : List Value := xs.map fun x => .float .f32 (cz x)
theorem czs_snoc (xs : List Nat) (k : Nat) (x : Nat) (h : xs[k]? = some x) : czs' (xs.take (k + 1)) = czs' (xs.take k) ++ [.float .f32 (cz x)] := by
  have hk := (List.getElem?_eq_some_iff.1 h).1
  rw [List.getElem?_eq_getElem hk] at h
  unfold czs'
  rw [List.take_succ_eq_append_getElem hk, Option.some.inj h]
  simp
/-- The call hands back a slice of the floats ys. -/
def MadeF (ys : List Nat) (w : World) (e : Ending) (w' : World) : Prop := ∃ A c, e = .returned (.slice A ys.length c) ∧ FRd w' A ys ∧ Below w.heap.size w w'

set_option maxHeartbeats 1000000 in
theorem l00Floats_any (A : Option Addr) (c : Nat) (xs : List Nat) (w : World) (hn : xs.length ≤ 1024) (hr : FRd w A xs) :
    Calls Try.prog 48 #[.slice A xs.length c] w (MadeF (xs.map cz) w) := by
  have HR := Lib.hid hr; clear hr
  obtain ⟨i0, hi, hz0, hz1, hz2⟩ := info_parts info22
  have HI := Lib.hid hi; clear hi
  have HZ0 := Lib.hid hz0; clear hz0
  have HZ1 := Lib.hid hz1; clear hz1
  have HZ2 := Lib.hid hz2; clear hz2
  unfold MadeF
  go_enter Try.func48, Try.ntmps48
  go_wp2
  go_loopw [3, 4] (fun v i wr => ∃ k : Nat, k ≤ xs.length ∧ i = .int .i64 k ∧ wr.ownsRow w.heap.size 22 1 v k (czs' (xs.take k)) ∧ Below w.heap.size w wr) (fun _ i _ => xs.length - (intOf i).toNat)
  case atStart => exact ⟨0, Nat.zero_le _, rfl, ⟨rfl, .inr ⟨w.heap.size, 0, #[], rfl, Nat.le_refl _, heap_alloc_new w _, Nat.le_refl _, Nat.zero_le _, rfl, rfl⟩⟩, (Below.refl _ _).alloc (Nat.le_refl _) _⟩
  case round =>
    obtain ⟨k, hk, rfl, hown, hbw⟩ := hrel
    by_cases hlt : k < xs.length
    · obtain ⟨x, hx⟩ : ∃ x, xs[k]? = some x := ⟨_, List.getElem?_eq_getElem hlt⟩
      obtain ⟨b, off, rfl, hbl, h0⟩ := (HR.out.below hbw) k x hx
      have HX := Lib.hid hx; clear hx
      have HW := Lib.hid hown; clear hown
      have O2 := Lib.hid (ownsRow_below HW.out (Below.refl _ _))
      have B2 := Lib.hid hbw
      have hsz := hbw.size
      go_wp2_with (first | (go_at_call 34; refine (l00Float_any x _).mono ?_; rintro e w' ⟨rfl, rfl⟩) | (at_builtin; refine wpList_append_own _ rfl _ _ 41 rfl w.heap.size 22 i0 (.float .f32 0) 1 4 Try.underlying41 HI.out HZ0.out HZ1.out HZ2.out rfl (by decide) _ _ _ rfl (O2.out.alloc _) ⟨wr.heap.size, 0, none⟩ 1 1 [.float .f32 (cz x)] rfl rfl ?c1 ?c2 ?c3 ?c4 ?c5 ?_))
      case c1 =>
        intro j u hj
        match j, hj with
        | 0, hj => cases hj; exact cell_first wr _ _
      case c2 => intro u hu; simp at hu; subst hu; rfl
      case c3 => unfold maxLen; omega
      case c4 => omega
      case c5 => simp; omega
      intro v' w3 hown' hgrow _
      rw [← czs_snoc _ _ _ HX.out] at hown'
      have O3 := Lib.hid hown'
      have B3 := Lib.hid ((B2.out.alloc B2.out.size _).grown hgrow (B2.out.alloc B2.out.size _).size (fun k hk => (O2.out.lt k hk).1))
      clear hown' hgrow
      go_wp2
      exact ⟨⟨k + 1, by omega, by go_num, O3.out, B3.out⟩, by simp [intOf]; omega⟩
    · obtain rfl : k = xs.length := by omega
      rw [List.take_length] at hown
      have HW := Lib.hid hown
      obtain ⟨hl, ⟨rfl, h0⟩ | ⟨g, cap, cur, rfl, hg, hh, hc, hm, hs, ht⟩⟩ := hown
      · have e0 : xs = [] := List.eq_nil_of_length_eq_zero h0
        subst e0
        go_wp2
        go_ret
        exact ⟨_, _, rfl, fun k x h => by simp at h, hbw⟩
      · have hgl := (Array.getElem?_eq_some_iff.1 hh).1
        have hcells := HW.out.cells (g := g) rfl
        have hrd : FRd wr (some ⟨g, 0, none⟩) (xs.map cz) := by
          intro j x hx
          refine ⟨g, 0, rfl, hgl, ?_⟩
          have := hcells j (.float .f32 x) (by simp [czs'] at hx ⊢; exact hx)
          rw [addr_plus] at this
          exact this
        have HRD := Lib.hid hrd
        clear hrd hcells hl hh hs ht
        go_wp2
        go_ret
        exact ⟨some ⟨g, 0, none⟩, cap, by rw [List.length_map]; rfl, HRD.out, hbw⟩
/-- The call hands back a slice of the floats ys, and a code. -/
def MadeF2 (ys : List Nat) (k : Int) (w : World) (e : Ending) (w' : World) : Prop := ∃ A c, e = .returned (.tuple #[.slice A ys.length c, .int .i64 k]) ∧ FRd w' A ys ∧ Below w.heap.size w w'
theorem specWeights_yes (c : Nat) (w : World) (hf : fin32 c = true) (h0 : (single.order c 0 == some .lt) = false) (h2 : (single.order c 1073741824 == some .gt) = false) :
    Calls Try.prog 19 #[.float .f32 c] w (MadeF2 [cz (wtA c), cz (wtB c)] 0 w) := by
  have HS := Lib.hid (fun w => specWeights1_yes c w hf h0 h2)
  clear hf h0 h2
  unfold MadeF2
  go_enter Try.func19, Try.ntmps19
  go_wp2_with fail
  refine (HS.out _).mono ?_
  rintro e w1 ⟨B, rfl, hB, hR, b1⟩
  have R1 := Lib.hid hR.rd; clear hR
  have B1 := Lib.hid b1; clear b1
  go_wp2_with fail
  refine (l00Floats_any _ 2 [wtA c, wtB c] _ (by simp) R1.out).mono ?_
  rintro e w2 ⟨A, c', rfl, r2, b2⟩
  have R2 := Lib.hid r2; clear r2
  have B2 := Lib.hid (B1.out.trans (b2.mono B1.out.size)); clear b2
  go_wp2
  go_ret2
  exact ⟨_, _, rfl, R2.out, B2.out⟩
theorem specWeights_no (c : Nat) (w : World) (h : wtC c ≠ 0) :
    Calls Try.prog 19 #[.float .f32 c] w (MadeF2 [] (wtC c) w) := by
  have HS := Lib.hid (fun w => specWeights1_no c w h)
  clear h
  unfold MadeF2
  go_enter Try.func19, Try.ntmps19
  go_wp2_with fail
  refine (HS.out _).mono ?_
  rintro e w1 ⟨rfl, b1⟩
  have B1 := Lib.hid b1; clear b1
  go_wp2_with fail
  refine (l00Floats_any none 0 [] _ (by simp) (fun k x h => by simp at h)).mono ?_
  rintro e w2 ⟨A, c', rfl, r2, b2⟩
  have R2 := Lib.hid r2; clear r2
  have B2 := Lib.hid (B1.out.trans (b2.mono B1.out.size)); clear b2
  go_wp2
  go_ret2
  exact ⟨_, _, rfl, R2.out, B2.out⟩
end Go.Proofs.Ytkfahacnanlnfaa
