/- The list of pulses turned round in place; the program's inverse. -/
import Derived.Test.YtdijnjigamkhjaaGreatDoorD
namespace Go.Proofs.YtdijnjigamkhjaaGreatDoor
open Go.RowKit

theorem grownBy_drew {a w : World} {row : Option Nat} (h : a.grownBy w row) : a.grownBy w.drew row := ⟨h.os, h.tape, h.output, h.size, h.block⟩
theorem turned {xs L : List Pu} {n k : Nat} (hx : xs.length = n) (hL : L.length = n) (hk : n ≤ 2 * k + 1) (h : ∀ m, m < n → L[m]? = if m < k ∨ n - k ≤ m then xs[n - 1 - m]? else xs[m]?) : L = xs.reverse := by
  refine List.ext_getElem? fun t => ?_
  by_cases ht : t < n
  · rw [h t ht, List.getElem?_reverse (by omega), hx]
    split
    · rfl
    · have e : n - 1 - t = t := by omega
      rw [e]
  · rw [List.getElem?_eq_none (by omega), List.getElem?_eq_none (by simp; omega)]
theorem turnk {xs L : List Pu} {n k m : Nat} {p q : Pu} (hL : L.length = n) (hm : n - 1 - k = m) (hk : 2 * k + 1 < n) (hp : L[k]? = some p) (hq : L[m]? = some q)
    (h : ∀ m, m < n → L[m]? = if m < k ∨ n - k ≤ m then xs[n - 1 - m]? else xs[m]?) : ∀ t, t < n → ((L.set k q).set m p)[t]? = if t < k + 1 ∨ n - (k + 1) ≤ t then xs[n - 1 - t]? else xs[t]? := by
  intro t ht
  rw [List.getElem?_set]
  split
  · rename_i e
    subst e
    rw [if_pos (by simp; omega), if_pos (by omega), ← hp, h k (by omega), if_neg (by omega)]
    congr 1
    omega
  · rw [List.getElem?_set]
    split
    · rename_i e
      subst e
      rw [if_pos (by omega), if_pos (by omega), ← hq, h m (by omega), if_neg (by omega)]
      congr 1
      omega
    · rw [h t ht]
      by_cases c : t < k ∨ n - k ≤ t
      · rw [if_pos c, if_pos (by omega)]
      · rw [if_neg c, if_neg (by omega)]

set_option maxHeartbeats 1000000 in
theorem reverseRow_any (G cap : Nat) (xs : List Pu) (more : List Value) (w : World) (hn : xs.length ≤ 1048576) (hr : Row w G xs more) :
    Calls Tryz.prog 37 #[.slice (some ⟨G, 0, none⟩) xs.length cap] w fun e w' => e = .returned (.tuple #[]) ∧ Row w' G xs.reverse more ∧ w.grownBy w' (some G) := by
  have HR := Lib.hid hr; clear hr
  obtain ⟨n, hl⟩ : ∃ n, xs.length = n := ⟨_, rfl⟩
  rw [hl] at hn ⊢
  have HL := Lib.hid hl; clear hl
  go_enter Tryz.func37, Tryz.ntmps37
  go_wp2
  go_loopw [2, 3] (fun i j wr => ∃ (k : Nat) (L : List Pu), 2 * k ≤ n + 1 ∧ i = .int .i64 k ∧ j = .int .i64 ((n : Int) - 1 - k) ∧ L.length = n ∧ (∀ m, m < n → L[m]? = if m < k ∨ n - k ≤ m then xs[n - 1 - m]? else xs[m]?) ∧ Row wr G L more ∧ w.grownBy wr (some G)) (fun i _ _ => n - (intOf i).toNat)
  case atStart => exact ⟨0, xs, by omega, rfl, by simp, HL.out, fun m hm => by rw [if_neg (by omega)], HR.out, World.grownBy.refl _ _⟩
  case round =>
    obtain ⟨k, L, hk, rfl, rfl, hL, hall, hrow, hg⟩ := hrel
    by_cases hlt : 2 * k + 1 < n
    · have e : (n : Int) - 1 - k = ((n - 1 - k : Nat) : Int) := by omega
      rw [e]
      obtain ⟨p, hp⟩ : ∃ p, L[k]? = some p := ⟨_, List.getElem?_eq_getElem (by omega)⟩
      obtain ⟨q, hq⟩ : ∃ q, L[n - 1 - k]? = some q := ⟨_, List.getElem?_eq_getElem (by omega)⟩
      obtain ⟨m, hm⟩ : ∃ m, n - 1 - k = m := ⟨_, rfl⟩
      rw [hm] at hq ⊢
      obtain ⟨c0, c1, c2⟩ := hrow.cells hp
      obtain ⟨d0, d1, d2⟩ := hrow.cells hq
      have f0 := fun i => hrow.frozen i
      have hkm : k < m := by omega
      have hmn : m < n := by omega
      have HP := Lib.hid hp; clear hp
      have HQ := Lib.hid hq; clear hq
      have HM := Lib.hid hm; clear hm
      have HRow := Lib.hid hrow; clear hrow
      have HA := Lib.hid hall; clear hall
      have HL' := Lib.hid hL; clear hL e
      have hki : (k : Int) < m := by omega
      obtain ⟨pa, ph, pb⟩ := p
      obtain ⟨qa, qh, qb⟩ := q
      dsimp only at c0 c1 c2 d0 d1 d2
      go_wp2
      go_region
      have hr2 := ((HRow.out.put (k := k) (p := ⟨qa, qh, qb⟩) (by rw [HL'.out]; omega)).put (k := m) (p := ⟨pa, ph, pb⟩) (by rw [List.length_set, HL'.out]; omega)).drew
      have hg2 := grownBy_drew (grownBy_setCell (grownBy_setCell (grownBy_setCell (grownBy_setCell (grownBy_setCell (grownBy_setCell hg (k * 3) (.int .i64 qa)) (k * 3 + 1) (.int .i64 qh)) (k * 3 + 2) (.bool qb)) (m * 3) (.int .i64 pa)) (m * 3 + 1) (.int .i64 ph)) (m * 3 + 2) (.bool pb))
      have HR2 := Lib.hid hr2
      have HG2 := Lib.hid hg2
      clear hr2 hg2
      generalize (((((((wr.setCell ⟨G, k * 3, none⟩ (.int .i64 qa)).setCell ⟨G, k * 3 + 1, none⟩ (.int .i64 qh)).setCell ⟨G, k * 3 + 2, none⟩ (.bool qb)).setCell ⟨G, m * 3, none⟩ (.int .i64 pa)).setCell ⟨G, m * 3 + 1, none⟩ (.int .i64 ph)).setCell ⟨G, m * 3 + 2, none⟩ (.bool pb)).drew) = w2 at HR2 HG2 ⊢
      clear c0 c1 c2 d0 d1 d2 f0
      go_wp2
      have hM := HM.out
      refine ⟨⟨k + 1, (L.set k ⟨qa, qh, qb⟩).set m ⟨pa, ph, pb⟩, by omega, by go_num, ?_, ?_, ?_, HR2.out, HG2.out⟩, by simp [intOf]; omega⟩
      · rw [show (m : Int) - 1 = (n : Int) - 1 - ((k + 1 : Nat) : Int) by omega]
      · rw [List.length_set, List.length_set]; exact HL'.out
      · exact turnk HL'.out HM.out hlt HP.out HQ.out HA.out
    · have HRow := Lib.hid hrow; clear hrow
      have HA := Lib.hid hall; clear hall
      have HL' := Lib.hid hL; clear hL
      go_wp2
      go_end0
      refine ⟨rfl, ?_, hg⟩
      rw [← turned HL.out HL'.out (by omega) HA.out]
      exact HRow.out

theorem reverse_any (base : Nat) (v : Value) (xs : List Pu) (w : World) (hn : xs.length ≤ 1048576) (hv : Own w base v xs) :
    Calls Tryz.prog 37 #[v] w fun e w' => e = .returned (.tuple #[]) ∧ Own w' base v xs.reverse ∧ w.grownBy w' v.ownBlock := by
  rcases hv with ⟨rfl, rfl⟩ | ⟨G, cap, more, rfl, hG, hr, h2, h3, h4⟩
  · go_enter Tryz.func37, Tryz.ntmps37
    go_wp2
    refine wp_loop_once ?_
    go_wp2
    go_end0
    exact ⟨rfl, .inl ⟨rfl, rfl⟩, World.grownBy.refl _ _⟩
  · refine (reverseRow_any G cap xs more w hn hr).mono fun e w' ⟨he, hr', hg⟩ => ⟨he, .inr ⟨G, cap, more, by rw [List.length_reverse], hG, hr', by rw [List.length_reverse]; exact h2, h3, by rw [List.length_reverse]; exact h4⟩, hg⟩

theorem inv_eq (xs : List Pu) : inv xs = xs.reverse.map Pu.flip := by simp [inv]
theorem flipset (ys : List Pu) (k : Nat) (p : Pu) (hk : k < ys.length) (hp : ys[k]? = some p) :
    ((ys.take k).map Pu.flip ++ ys.drop k).set k p.flip = (ys.take (k + 1)).map Pu.flip ++ ys.drop (k + 1) := by
  have hp' : ys[k] = p := by rw [List.getElem?_eq_getElem hk] at hp; simpa using hp
  rw [List.set_append_right _ _ (by simp; omega)]
  have e2 : k - ((ys.take k).map Pu.flip).length = 0 := by simp; omega
  rw [e2, List.drop_eq_getElem_cons hk, hp', List.take_succ_eq_append_getElem hk, hp', List.map_append, List.append_assoc]
  rfl
theorem flipget (ys : List Pu) (k : Nat) (hk : k < ys.length) : ((ys.take k).map Pu.flip ++ ys.drop k)[k]? = ys[k]? := by
  rw [List.getElem?_append_right (by simp; omega)]
  have e2 : k - ((ys.take k).map Pu.flip).length = 0 := by simp; omega
  rw [e2, List.getElem?_drop]
  simp

set_option maxHeartbeats 400000 in
theorem implInverse_yes (A : Option Addr) (c : Nat) (xs : List Pu) (w : World) (hs : isSeq xs = true) (hr : Rd w A xs) :
    Calls Tryz.prog 11 #[.slice A xs.length c] w (Made2 (inv xs) 0 w) := by
  have hn : xs.length ≤ 60 := by unfold isSeq at hs; simp at hs; exact hs.1
  have HS := Lib.hid hs; clear hs
  have HR := Lib.hid hr; clear hr
  go_enter Tryz.func11, Tryz.ntmps11
  go_wp2_with (go_at_call 8; refine (implIsSequence_any _ _ _ _ (by omega) HR.out).mono ?_; rintro e w1 ⟨rfl, b1⟩; rw [HS.out])
  refine (clone_any _ _ _ _ (by omega) (HR.out.below b1)).mono ?_
  rintro e w2 ⟨v, rfl, o2, b2⟩
  have O2 := Lib.hid o2; clear o2
  go_wp2_with fail
  refine (reverse_any _ _ _ _ (by omega) O2.out).mono ?_
  rintro e w3 ⟨rfl, o3, g3⟩
  obtain ⟨n, hl⟩ : ∃ n, xs.length = n := ⟨_, rfl⟩
  rcases o3 with ⟨rfl, hnil⟩ | ⟨G, cap, more, rfl, hG, hr3, h2, h3, h4⟩
  · have h0 : xs = [] := by simpa using hnil
    subst h0
    go_wp2
    refine wp_loop_once ?_
    go_wp2
    go_ret2
    have hb : Below w.heap.size w w3 := (b1.trans (b2.mono b1.size)).grown g3 (Nat.le_trans b1.size b2.size) (fun g e => by simp [Value.ownBlock] at e)
    exact ⟨_, rfl, .inl ⟨rfl, rfl⟩, hb⟩
  · have HL := Lib.hid hl
    rw [List.length_reverse, hl] at h2 h4 ⊢
    have hb3 : Below w.heap.size w w3 := (b1.trans (b2.mono b1.size)).grown g3 (Nat.le_trans b1.size b2.size) (fun g e => by simp [Value.ownBlock] at e; have := b1.size; omega)
    clear g3 hl
    obtain ⟨ys, hy⟩ : ∃ ys, xs.reverse = ys := ⟨_, rfl⟩
    rw [hy] at hr3
    have HY := Lib.hid hy; clear hy
    have HR3 := Lib.hid hr3; clear hr3
    have hyl : ys.length = n := by rw [← HY.out, List.length_reverse]; exact HL.out
    have HYL := Lib.hid hyl; clear hyl
    have hn' : n ≤ 60 := by rw [← HL.out]; exact hn
    clear hn
    go_wp2
    go_loopw [15] (fun i wr => ∃ k : Nat, k ≤ n ∧ i = .int .i64 k ∧ Row wr G ((ys.take k).map Pu.flip ++ ys.drop k) more ∧ Below w.heap.size w wr) (fun i _ => n - (intOf i).toNat)
    case atStart => exact ⟨0, Nat.zero_le _, rfl, by simpa using HR3.out, hb3⟩
    case round =>
      obtain ⟨k, hk, rfl, hrow, hbw⟩ := hrel
      by_cases hlt : k < n
      · obtain ⟨p, hp⟩ : ∃ p, ys[k]? = some p := ⟨_, List.getElem?_eq_getElem (by rw [HYL.out]; exact hlt)⟩
        have hfp := (flipget ys k (by rw [HYL.out]; exact hlt)).trans hp
        obtain ⟨c0, c1, c2⟩ := hrow.cells hfp
        have f2 := hrow.frozen (k * 3 + 2)
        have HRow := Lib.hid hrow; clear hrow
        have HP := Lib.hid hp; clear hp
        have HFP := Lib.hid hfp; clear hfp
        go_wp2
        refine ⟨⟨k + 1, by omega, by go_num, ?_, hbw.setCell (show w.heap.size ≤ G from Nat.le_trans b1.size hG) _⟩, by simp [intOf]; omega⟩
        rw [← flipset ys k p (by rw [HYL.out]; exact hlt) HP.out]
        exact HRow.out.set_b HFP.out (!p.b)
      · obtain rfl : k = n := by omega
        have HRow := Lib.hid hrow; clear hrow
        go_wp2
        go_ret2
        have hrw := HRow.out
        rw [← HYL.out, List.take_length, List.drop_length, List.append_nil, ← HY.out, ← inv_eq] at hrw
        have hnl : xs.length = k := HL.out
        refine ⟨_, rfl, .inr ⟨G, cap, more, by rw [inv_length, hnl]; rfl, Nat.le_trans b1.size hG, hrw, by rw [inv_length, hnl]; exact h2, h3, by rw [inv_length, hnl]; exact h4⟩, hbw⟩

theorem implInverse_no (A : Option Addr) (c : Nat) (xs : List Pu) (w : World) (hn : xs.length ≤ 1048576) (hs : isSeq xs = false) (hr : Rd w A xs) :
    Calls Tryz.prog 11 #[.slice A xs.length c] w (Made2 [] 1 w) := by
  have HS := Lib.hid hs; clear hs
  have HR := Lib.hid hr; clear hr
  go_enter Tryz.func11, Tryz.ntmps11
  go_wp2_with (go_at_call 8; refine (implIsSequence_any _ _ _ _ hn HR.out).mono ?_; rintro e w1 ⟨rfl, b1⟩; rw [HS.out])
  go_ret2
  exact ⟨_, rfl, .inl ⟨rfl, rfl⟩, b1⟩

def invRes (xs : List Pu) : List Pu := if isSeq xs then inv xs else []
def invCode (xs : List Pu) : Int := if isSeq xs then 0 else 1
theorem implInverse_any (A : Option Addr) (c : Nat) (xs : List Pu) (w : World) (hn : xs.length ≤ 1048576) (hr : Rd w A xs) :
    Calls Tryz.prog 11 #[.slice A xs.length c] w (Made2 (invRes xs) (invCode xs) w) := by
  unfold invRes invCode
  by_cases h : isSeq xs = true
  · rw [if_pos h, if_pos h]; exact implInverse_yes A c xs w h hr
  · rw [if_neg h, if_neg h]; exact implInverse_no A c xs w hn (by simpa using h) hr
theorem specInverse_any (A : Option Addr) (c : Nat) (xs : List Pu) (w : World) (hn : xs.length ≤ 1048576) (hr : Rd w A xs) :
    Calls Tryz.prog 22 #[.slice A xs.length c] w (Made2 (invRes xs) (invCode xs) w) := by
  unfold invRes invCode
  by_cases h : isSeq xs = true
  · rw [if_pos h, if_pos h]; exact specInverse_yes A c xs w h hr
  · rw [if_neg h, if_neg h]; exact specInverse_no A c xs w hn (by simpa using h) hr
theorem invRes_length (xs : List Pu) (hn : xs.length ≤ 1048576) : (invRes xs).length ≤ 1048576 := by
  unfold invRes; split
  · rw [inv_length]; exact hn
  · simp
end Go.Proofs.YtdijnjigamkhjaaGreatDoor
