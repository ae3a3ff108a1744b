/- One step of the reference's shortening; its loop. -/
import Derived.Test.YtdijnjigamkhjaaGreatDoorSs
namespace Go.Proofs.YtdijnjigamkhjaaGreatDoor
open Go.RowKit

theorem next_repl : ∀ (ys zs : List Pu), next ys = some zs → ∃ i p q vs, ys[i]? = some p ∧ red p q = some vs ∧ zs = repl ys i vs
  | [], _, h => by cases h
  | [_], _, h => by cases h
  | a :: b :: r, zs, h => by
    simp only [next] at h
    split at h
    · rename_i v hv
      cases h
      exact ⟨0, a, b, v, rfl, hv, by simp [repl]⟩
    · cases hn : next (b :: r) with
      | none => rw [hn] at h; cases h
      | some z =>
        rw [hn] at h
        cases h
        obtain ⟨i, p, q, vs, hp, hv, rfl⟩ := next_repl (b :: r) z hn
        exact ⟨i + 1, p, q, vs, by simpa using hp, hv, by simp [repl]⟩
theorem fine_next {ys zs : List Pu} (hf : Fine ys) (h : next ys = some zs) : Fine zs := by
  obtain ⟨i, p, q, vs, hp, hv, rfl⟩ := next_repl ys zs h
  exact fine_repl hf hp hv
theorem own_empty_at (w : World) (base g : Nat) (hb : base ≤ g) (hg : w.heap.size = g) : Own (w.alloc (.cells #[] 43)) base (.slice (some ⟨g, 0, none⟩) 0 0) [] := by
  subst hg
  exact (own_empty_a w).mono hb
theorem rd_drop {w : World} {b off : Nat} {ys : List Pu} (h : Rd w (some ⟨b, off, none⟩) ys) (d : Nat) : Rd w (some ⟨b, off + d * 3, none⟩) (ys.drop d) := by
  intro k p hk
  rw [List.getElem?_drop] at hk
  obtain ⟨b', off', e, hb, c0, c1, c2⟩ := h _ _ hk
  cases e
  have e : off + d * 3 + k * 3 = off + (d + k) * 3 := by omega
  exact ⟨b, _, rfl, hb, by rw [e]; exact c0, by rw [e]; exact c1, by rw [e]; exact c2⟩
theorem rd_take {w : World} {A : Option Addr} {ys : List Pu} (h : Rd w A ys) (d : Nat) : Rd w A (ys.take d) := by
  intro k p hk
  have hkd : k < d := by
    have := Row.k_lt hk
    simp at this; omega
  rw [List.getElem?_take, if_pos hkd] at hk
  exact h k p hk

set_option maxHeartbeats 2000000 in
theorem step_some (A : Option Addr) (c n : Nat) (ys zs : List Pu) (w : World) (hn : ys.length = n) (h60 : n ≤ 60) (hc : n ≤ c) (hf : Fine ys) (hr : Rd w A ys) (hx : next ys = some zs) :
    Calls Tryz.prog 40 #[.slice A n c] w fun e w' => ∃ v, e = .returned (.tuple #[v, .bool true]) ∧ Own w' w.heap.size v zs ∧ Below w.heap.size w w' := by
  have HN := Lib.hid hn; clear hn
  have HF := Lib.hid hf; clear hf
  have HR := Lib.hid hr; clear hr
  have HX := Lib.hid hx; clear hx
  go_enter Tryz.func40, Tryz.ntmps40
  go_wp2
  go_loopw [4] (fun i wr => ∃ k : Nat, k ≤ n ∧ i = .int .i64 k ∧ Below w.heap.size w wr ∧ (∀ j p q, j < k → ys[j]? = some p → ys[j + 1]? = some q → red p q = none)) (fun i _ => n + 1 - (intOf i).toNat)
  case atStart => exact ⟨0, Nat.zero_le _, rfl, Below.refl _ _, fun _ _ _ h => by omega⟩
  case round =>
    obtain ⟨k, hk, rfl, hbw, hall⟩ := hrel
    have HA := Lib.hid hall; clear hall
    by_cases hlt : k + 1 < n
    · obtain ⟨p, hp⟩ : ∃ p, ys[k]? = some p := ⟨_, List.getElem?_eq_getElem (by rw [HN.out]; omega)⟩
      obtain ⟨q, hq⟩ : ∃ q, ys[k + 1]? = some q := ⟨_, List.getElem?_eq_getElem (by rw [HN.out]; omega)⟩
      have hrw := HR.out.below hbw
      obtain ⟨b, off, rfl, hbl, c0, c1, c2⟩ := hrw k p hp
      obtain ⟨b', off', e', hbl', d0, d1, d2⟩ := hrw (k + 1) q hq
      cases e'
      have hph := HF.out k p hp
      have HRW := Lib.hid hrw; clear hrw
      obtain ⟨pa, ph, pb⟩ := p
      obtain ⟨qa, qh, qb⟩ := q
      have HP := Lib.hid hp; clear hp
      have HQ := Lib.hid hq; clear hq
      have hkn : k < n := by omega
      have hknI : (k : Int) + 1 < (n : Int) := by omega
      have HPH := Lib.hid hph; clear hph
      go_wp2
      have hw1 : IntKind.i64.wrap ((k : Int) + 1) = (k : Int) + 1 := by rw [IntKind.wrap_i64]; omega
      have hk0 : (0 : Int) ≤ (k : Int) + 1 := by omega
      have hkt : ((k : Int) + 1).toNat = k + 1 := by omega
      go_region
      all_goals
        clear hw1 hk0 hkt
        by_cases ha : pa = qa
        · by_cases hh : ph = qh
          · by_cases hb : pb = qb
            · by_cases hz : ph = 0
              · have hrd : red ⟨pa, ph, pb⟩ ⟨qa, qh, qb⟩ = none := red_stay ha hh hb hz
                have HRD := Lib.hid hrd
                have t1 : (pa != qa) = false := by simp [ha]
                have t2 : (ph != qh) = false := by simp [hh]
                have t3 : (pb == qb) = true := by simp [hb]
                have t4 : (ph == 0) = true := by simp [hz]
                clear ha hh hb hz hrd
                go_wp2
                exact ⟨⟨k + 1, by omega, by go_num, ((hbw.alloc hbw.size _).alloc (Nat.le_trans hbw.size (by simp)) _).drew, fun j p q hj hp hq => by
                  rcases Nat.lt_succ_iff_lt_or_eq.1 hj with h | rfl
                  · exact HA.out j p q h hp hq
                  · have e1 := HP.out.symm.trans hp
                    have e2 := HQ.out.symm.trans hq
                    cases e1
                    cases e2
                    exact HRD.out⟩, by simp [intOf]; omega⟩
              · have hrd : red ⟨pa, ph, pb⟩ ⟨qa, qh, qb⟩ = some [⟨pa, ph - 1, pb⟩] := red_one ha hh hb hz
                have HRD := Lib.hid hrd
                have t1 : (pa != qa) = false := by simp [ha]
                have t2 : (ph != qh) = false := by simp [hh]
                have t3 : (pb == qb) = true := by simp [hb]
                have t4 : (ph == 0) = false := by simp [hz]
                clear ha hh hb hz hrd
                have hkc : k ≤ c := by omega
                have hk2c : k + 2 ≤ c := by omega
                have hk2I : (k : Int) + 2 ≤ (n : Int) := by omega
                go_wp2_with (at_builtin; refine wpList_append_p rfl (.tmp 48) (.tmp 51) rfl w.heap.size _ [] rfl ?_ _ _ k (ys.take k) ?_ rfl ?_ ?_ ?_ ?_)
                · exact own_empty_at _ _ _ (Nat.le_trans hbw.size (by omega)) (by simp)
                · rw [List.length_take, HN.out]; omega
                · exact rd_take (HRW.out.below ((((Below.refl _ _).alloc (Nat.le_refl _) _).alloc (by simp) _).alloc (by simp; omega) _).drew) k
                · simp; omega
                · exact Nat.le_trans hbw.size (by simp; omega)
                intro v1 w4 o1 g1 _
                have B4 := Lib.hid (((((hbw.alloc hbw.size _).alloc (Nat.le_trans hbw.size (by simp)) _).alloc (Nat.le_trans hbw.size (by simp; omega)) _).drew).grown g1 (Nat.le_trans hbw.size (by simp; omega)) (fun g e => by simp [Value.ownBlock] at e; have := hbw.size; omega))
                have O1 := Lib.hid (show Own w4 w.heap.size v1 (ys.take k) from o1)
                have HRW4 := Lib.hid (HR.out.below B4.out)
                have e00 := World.cell?_of_block (a := ⟨wr.heap.size, 0, none⟩) (g1.block wr.heap.size (by simp; omega) (fun e => by have h : wr.heap.size = wr.heap.size + 1 + 1 := Option.some.inj e; omega))
                have e01 := World.cell?_of_block (a := ⟨wr.heap.size, 1, none⟩) (g1.block wr.heap.size (by simp; omega) (fun e => by have h : wr.heap.size = wr.heap.size + 1 + 1 := Option.some.inj e; omega))
                have e02 := World.cell?_of_block (a := ⟨wr.heap.size, 2, none⟩) (g1.block wr.heap.size (by simp; omega) (fun e => by have h : wr.heap.size = wr.heap.size + 1 + 1 := Option.some.inj e; omega))
                have e10 := World.cell?_of_block (a := ⟨wr.heap.size + 1, 0, none⟩) (g1.block (wr.heap.size + 1) (by simp) (fun e => by have h : wr.heap.size + 1 = wr.heap.size + 1 + 1 := Option.some.inj e; omega))
                have e11 := World.cell?_of_block (a := ⟨wr.heap.size + 1, 1, none⟩) (g1.block (wr.heap.size + 1) (by simp) (fun e => by have h : wr.heap.size + 1 = wr.heap.size + 1 + 1 := Option.some.inj e; omega))
                have e12 := World.cell?_of_block (a := ⟨wr.heap.size + 1, 2, none⟩) (g1.block (wr.heap.size + 1) (by simp) (fun e => by have h : wr.heap.size + 1 = wr.heap.size + 1 + 1 := Option.some.inj e; omega))
                simp [go_sem] at e00 e01 e02 e10 e11 e12
                clear o1 g1
                have hph0 : 0 ≤ ph := HPH.out.1
                have hph1 : ph ≤ 24 := HPH.out.2
                go_wp2_with (at_builtin; refine wpList_append_p rfl (.tmp 58) (.tmp 67) rfl w.heap.size _ (ys.take k) rfl ?_ _ _ 1 [⟨pa, ph - 1, pb⟩] rfl rfl ?_ ?_ ?_ ?_)
                · exact O1.out.below ((Below.refl _ _).alloc (Nat.le_refl _) _)
                · exact rd_one w4 ⟨pa, ph - 1, pb⟩
                · simp; omega
                · exact Nat.le_trans B4.out.size (by simp)
                intro v5 w5 o5 g5 _
                have B5 := Lib.hid ((B4.out.alloc B4.out.size _).grown g5 (Nat.le_trans B4.out.size (by simp)) (fun g e => (O1.out.base g e).1))
                have O5 := Lib.hid o5
                have HRW5 := Lib.hid (HR.out.below B5.out)
                clear o5 g5
                have hzs : zs = repl ys k [⟨pa, ph - 1, pb⟩] := by have := HX.out.symm.trans (next_at k ys _ _ _ HP.out HQ.out HRD.out HA.out); cases this; rfl
                have HZ := Lib.hid hzs
                clear hzs
                by_cases hce : c = k + 2
                · subst hce
                  go_wp2_with (at_builtin; refine wpList_append_p rfl (.tmp 69) (.tmp 73) rfl w.heap.size _ (ys.take k ++ [⟨pa, ph - 1, pb⟩]) rfl ?_ _ _ (n - (k + 2)) (ys.drop (k + 2)) ?_ rfl ?_ ?_ ?_ ?_)
                  · exact O5.out
                  · rw [List.length_drop, HN.out]
                  · rw [List.drop_eq_nil_of_le (by rw [HN.out]; omega)]; exact rd_empty _ _
                  · have := HN.out; simp; omega
                  · exact B5.out.size
                  intro v9 w9 o9 g9 _
                  have B9 := Lib.hid (B5.out.grown g9 B5.out.size (fun g e => (O5.out.base g e).1))
                  have O9 := Lib.hid o9
                  clear o9 g9
                  go_wp2
                  go_ret2
                  exact ⟨_, rfl, by rw [HZ.out]; simpa [repl] using O9.out, B9.out⟩
                · go_wp2_with (at_builtin; refine wpList_append_p rfl (.tmp 69) (.tmp 73) rfl w.heap.size _ (ys.take k ++ [⟨pa, ph - 1, pb⟩]) rfl ?_ _ _ (n - (k + 2)) (ys.drop (k + 2)) ?_ rfl ?_ ?_ ?_ ?_)
                  · exact O5.out
                  · rw [List.length_drop, HN.out]
                  · exact rd_drop HRW5.out (k + 2)
                  · have := HN.out; simp; omega
                  · exact B5.out.size
                  intro v9 w9 o9 g9 _
                  have B9 := Lib.hid (B5.out.grown g9 B5.out.size (fun g e => (O5.out.base g e).1))
                  have O9 := Lib.hid o9
                  clear o9 g9
                  go_wp2
                  go_ret2
                  exact ⟨_, rfl, by rw [HZ.out]; simpa [repl] using O9.out, B9.out⟩
            · have hrd : red ⟨pa, ph, pb⟩ ⟨qa, qh, qb⟩ = some [] := red_drop ha hh hb
              have HRD := Lib.hid hrd
              have t1 : (pa != qa) = false := by simp [ha]
              have t2 : (ph != qh) = false := by simp [hh]
              have t3 : (pb == qb) = false := by simpa using hb
              clear ha hh hb hrd
              have hkc : k ≤ c := by omega
              have hk2c : k + 2 ≤ c := by omega
              have hk2I : (k : Int) + 2 ≤ (n : Int) := by omega
              go_wp2_with (at_builtin; refine wpList_append_p rfl (.tmp 48) (.tmp 51) rfl w.heap.size _ [] rfl ?_ _ _ k (ys.take k) ?_ rfl ?_ ?_ ?_ ?_)
              · exact own_empty_at _ _ _ (Nat.le_trans hbw.size (by omega)) (by simp)
              · rw [List.length_take, HN.out]; omega
              · exact rd_take (HRW.out.below ((((Below.refl _ _).alloc (Nat.le_refl _) _).alloc (by simp) _).alloc (by simp; omega) _).drew) k
              · simp; omega
              · exact Nat.le_trans hbw.size (by simp; omega)
              intro v1 w4 o1 g1 _
              have B4 := Lib.hid (((((hbw.alloc hbw.size _).alloc (Nat.le_trans hbw.size (by simp)) _).alloc (Nat.le_trans hbw.size (by simp; omega)) _).drew).grown g1 (Nat.le_trans hbw.size (by simp; omega)) (fun g e => by simp [Value.ownBlock] at e; have := hbw.size; omega))
              have O1 := Lib.hid (show Own w4 w.heap.size v1 (ys.take k) from o1)
              have HRW4 := Lib.hid (HR.out.below B4.out)
              have e00 := World.cell?_of_block (a := ⟨wr.heap.size, 0, none⟩) (g1.block wr.heap.size (by simp; omega) (fun e => by have h : wr.heap.size = wr.heap.size + 1 + 1 := Option.some.inj e; omega))
              have e01 := World.cell?_of_block (a := ⟨wr.heap.size, 1, none⟩) (g1.block wr.heap.size (by simp; omega) (fun e => by have h : wr.heap.size = wr.heap.size + 1 + 1 := Option.some.inj e; omega))
              have e02 := World.cell?_of_block (a := ⟨wr.heap.size, 2, none⟩) (g1.block wr.heap.size (by simp; omega) (fun e => by have h : wr.heap.size = wr.heap.size + 1 + 1 := Option.some.inj e; omega))
              have e10 := World.cell?_of_block (a := ⟨wr.heap.size + 1, 0, none⟩) (g1.block (wr.heap.size + 1) (by simp) (fun e => by have h : wr.heap.size + 1 = wr.heap.size + 1 + 1 := Option.some.inj e; omega))
              have e11 := World.cell?_of_block (a := ⟨wr.heap.size + 1, 1, none⟩) (g1.block (wr.heap.size + 1) (by simp) (fun e => by have h : wr.heap.size + 1 = wr.heap.size + 1 + 1 := Option.some.inj e; omega))
              have e12 := World.cell?_of_block (a := ⟨wr.heap.size + 1, 2, none⟩) (g1.block (wr.heap.size + 1) (by simp) (fun e => by have h : wr.heap.size + 1 = wr.heap.size + 1 + 1 := Option.some.inj e; omega))
              simp [go_sem] at e00 e01 e02 e10 e11 e12
              clear o1 g1
              have hzs : zs = repl ys k [] := by have := HX.out.symm.trans (next_at k ys _ _ _ HP.out HQ.out HRD.out HA.out); cases this; rfl
              have HZ := Lib.hid hzs
              clear hzs
              by_cases hce : c = k + 2
              · subst hce
                go_wp2_with (at_builtin; refine wpList_append_p rfl (.tmp 69) (.tmp 73) rfl w.heap.size _ (ys.take k) rfl ?_ _ _ (n - (k + 2)) (ys.drop (k + 2)) ?_ rfl ?_ ?_ ?_ ?_)
                · exact O1.out
                · rw [List.length_drop, HN.out]
                · rw [List.drop_eq_nil_of_le (by rw [HN.out]; omega)]; exact rd_empty _ _
                · have := HN.out; simp; omega
                · exact B4.out.size
                intro v9 w9 o9 g9 _
                have B9 := Lib.hid (B4.out.grown g9 B4.out.size (fun g e => (O1.out.base g e).1))
                have O9 := Lib.hid o9
                clear o9 g9
                go_wp2
                go_ret2
                exact ⟨_, rfl, by rw [HZ.out]; simpa [repl] using O9.out, B9.out⟩
              · go_wp2_with (at_builtin; refine wpList_append_p rfl (.tmp 69) (.tmp 73) rfl w.heap.size _ (ys.take k) rfl ?_ _ _ (n - (k + 2)) (ys.drop (k + 2)) ?_ rfl ?_ ?_ ?_ ?_)
                · exact O1.out
                · rw [List.length_drop, HN.out]
                · exact rd_drop HRW4.out (k + 2)
                · have := HN.out; simp; omega
                · exact B4.out.size
                intro v9 w9 o9 g9 _
                have B9 := Lib.hid (B4.out.grown g9 B4.out.size (fun g e => (O1.out.base g e).1))
                have O9 := Lib.hid o9
                clear o9 g9
                go_wp2
                go_ret2
                exact ⟨_, rfl, by rw [HZ.out]; simpa [repl] using O9.out, B9.out⟩
          · have hrd : red ⟨pa, ph, pb⟩ ⟨qa, qh, qb⟩ = none := red_ne (.inr hh)
            have HRD := Lib.hid hrd
            have t1 : (pa != qa) = false := by simp [ha]
            have t2 : (ph != qh) = true := by simpa using hh
            clear ha hh hrd
            go_wp2
            exact ⟨⟨k + 1, by omega, by go_num, ((hbw.alloc hbw.size _).alloc (Nat.le_trans hbw.size (by simp)) _).drew, fun j p q hj hp hq => by
              rcases Nat.lt_succ_iff_lt_or_eq.1 hj with h | rfl
              · exact HA.out j p q h hp hq
              · have e1 := HP.out.symm.trans hp
                have e2 := HQ.out.symm.trans hq
                cases e1
                cases e2
                exact HRD.out⟩, by simp [intOf]; omega⟩
        · have hrd : red ⟨pa, ph, pb⟩ ⟨qa, qh, qb⟩ = none := red_ne (.inl ha)
          have HRD := Lib.hid hrd
          have t1 : (pa != qa) = true := by simpa using ha
          clear ha hrd
          go_wp2
          exact ⟨⟨k + 1, by omega, by go_num, ((hbw.alloc hbw.size _).alloc (Nat.le_trans hbw.size (by simp)) _).drew, fun j p q hj hp hq => by
            rcases Nat.lt_succ_iff_lt_or_eq.1 hj with h | rfl
            · exact HA.out j p q h hp hq
            · have e1 := HP.out.symm.trans hp
              have e2 := HQ.out.symm.trans hq
              cases e1
              cases e2
              exact HRD.out⟩, by simp [intOf]; omega⟩
    · exfalso
      have hnx : next ys = none := next_none ys fun j p q hp hq => HA.out j p q (by have := Row.k_lt hq; have := HN.out; omega) hp hq
      rw [hnx] at HX
      cases HX.out

set_option maxHeartbeats 1000000 in
theorem step_none (A : Option Addr) (c n : Nat) (ys : List Pu) (w : World) (hn : ys.length = n) (h60 : n ≤ 60) (hf : Fine ys) (hr : Rd w A ys) (hx : next ys = none) :
    Calls Tryz.prog 40 #[.slice A n c] w fun e w' => e = .returned (.tuple #[.slice A n c, .bool false]) ∧ Below w.heap.size w w' := by
  have HN := Lib.hid hn; clear hn
  have HF := Lib.hid hf; clear hf
  have HR := Lib.hid hr; clear hr
  have HX := Lib.hid hx; clear hx
  go_enter Tryz.func40, Tryz.ntmps40
  go_wp2
  go_loopw [4] (fun i wr => ∃ k : Nat, k ≤ n ∧ i = .int .i64 k ∧ Below w.heap.size w wr ∧ (∀ j p q, j < k → ys[j]? = some p → ys[j + 1]? = some q → red p q = none)) (fun i _ => n + 1 - (intOf i).toNat)
  case atStart => exact ⟨0, Nat.zero_le _, rfl, Below.refl _ _, fun _ _ _ h => by omega⟩
  case round =>
    obtain ⟨k, hk, rfl, hbw, hall⟩ := hrel
    have HA := Lib.hid hall; clear hall
    by_cases hlt : k + 1 < n
    · obtain ⟨p, hp⟩ : ∃ p, ys[k]? = some p := ⟨_, List.getElem?_eq_getElem (by rw [HN.out]; omega)⟩
      obtain ⟨q, hq⟩ : ∃ q, ys[k + 1]? = some q := ⟨_, List.getElem?_eq_getElem (by rw [HN.out]; omega)⟩
      have hrw := HR.out.below hbw
      obtain ⟨b, off, rfl, hbl, c0, c1, c2⟩ := hrw k p hp
      obtain ⟨b', off', e', hbl', d0, d1, d2⟩ := hrw (k + 1) q hq
      cases e'
      have HRW := Lib.hid hrw; clear hrw
      obtain ⟨pa, ph, pb⟩ := p
      obtain ⟨qa, qh, qb⟩ := q
      have HP := Lib.hid hp; clear hp
      have HQ := Lib.hid hq; clear hq
      have hkn : k < n := by omega
      have hknI : (k : Int) + 1 < (n : Int) := by omega
      go_wp2
      have hw1 : IntKind.i64.wrap ((k : Int) + 1) = (k : Int) + 1 := by rw [IntKind.wrap_i64]; omega
      have hk0 : (0 : Int) ≤ (k : Int) + 1 := by omega
      have hkt : ((k : Int) + 1).toNat = k + 1 := by omega
      go_region
      all_goals
        clear hw1 hk0 hkt
        have hno : red ⟨pa, ph, pb⟩ ⟨qa, qh, qb⟩ = none := by
          rcases h : red ⟨pa, ph, pb⟩ ⟨qa, qh, qb⟩ with _ | vs
          · rfl
          · have := HX.out.symm.trans (next_at k ys _ _ _ HP.out HQ.out h HA.out)
            cases this
        have HRD := Lib.hid hno
        clear hno
        by_cases ha : pa = qa
        · by_cases hh : ph = qh
          · by_cases hb : pb = qb
            · by_cases hz : ph = 0
              · have t1 : (pa != qa) = false := by simp [ha]
                have t2 : (ph != qh) = false := by simp [hh]
                have t3 : (pb == qb) = true := by simp [hb]
                have t4 : (ph == 0) = true := by simp [hz]
                clear ha hh hb hz
                go_wp2
                exact ⟨⟨k + 1, by omega, by go_num, ((hbw.alloc hbw.size _).alloc (Nat.le_trans hbw.size (by simp)) _).drew, fun j p q hj hp hq => by
                  rcases Nat.lt_succ_iff_lt_or_eq.1 hj with h | rfl
                  · exact HA.out j p q h hp hq
                  · have e1 := HP.out.symm.trans hp
                    have e2 := HQ.out.symm.trans hq
                    cases e1
                    cases e2
                    exact HRD.out⟩, by simp [intOf]; omega⟩
              · have h := HRD.out
                rw [red_one ha hh hb hz] at h
                cases h
            · have h := HRD.out
              rw [red_drop ha hh hb] at h
              cases h
          · have t1 : (pa != qa) = false := by simp [ha]
            have t2 : (ph != qh) = true := by simpa using hh
            clear ha hh
            go_wp2
            exact ⟨⟨k + 1, by omega, by go_num, ((hbw.alloc hbw.size _).alloc (Nat.le_trans hbw.size (by simp)) _).drew, fun j p q hj hp hq => by
              rcases Nat.lt_succ_iff_lt_or_eq.1 hj with h | rfl
              · exact HA.out j p q h hp hq
              · have e1 := HP.out.symm.trans hp
                have e2 := HQ.out.symm.trans hq
                cases e1
                cases e2
                exact HRD.out⟩, by simp [intOf]; omega⟩
        · have t1 : (pa != qa) = true := by simpa using ha
          clear ha
          go_wp2
          exact ⟨⟨k + 1, by omega, by go_num, ((hbw.alloc hbw.size _).alloc (Nat.le_trans hbw.size (by simp)) _).drew, fun j p q hj hp hq => by
            rcases Nat.lt_succ_iff_lt_or_eq.1 hj with h | rfl
            · exact HA.out j p q h hp hq
            · have e1 := HP.out.symm.trans hp
              have e2 := HQ.out.symm.trans hq
              cases e1
              cases e2
              exact HRD.out⟩, by simp [intOf]; omega⟩
    · go_wp2
      go_ret2
      exact ⟨rfl, hbw⟩

set_option maxHeartbeats 1000000 in
theorem specShorten_yes (A : Option Addr) (c : Nat) (xs : List Pu) (w : World) (hs : isSeq xs = true) (hr : Rd w A xs) :
    Calls Tryz.prog 17 #[.slice A xs.length c] w (Made2 (fin_ xs) 0 w) := by
  have hn : xs.length ≤ 60 := by unfold isSeq at hs; simp at hs; exact hs.1
  have hf := fine_of_seq hs
  have HS := Lib.hid hs; clear hs
  have HR := Lib.hid hr; clear hr
  have HF := Lib.hid hf; clear hf
  go_enter Tryz.func17, Tryz.ntmps17
  go_wp2_with (first | (go_at_call 31; refine (l05Is_any _ _ _ _ (by omega) HR.out).mono ?_; rintro e w' ⟨rfl, rfl⟩; rw [HS.out]) | (at_builtin; refine wpList_append_p rfl (.tmp 11) (.tmp 12) rfl w.heap.size _ [] rfl ?c1 _ _ _ xs rfl rfl ?c2 ?c3 ?c4 ?c5))
  case c1 => exact own_empty_a w
  case c2 => exact HR.out.below ((Below.refl _ _).alloc (Nat.le_refl _) _)
  case c3 => simp; omega
  case c4 => simp
  case c5 =>
    intro v1 w1 o1 g1 _
    have B1 := Lib.hid (((Below.refl _ _).alloc (Nat.le_refl _) _).grown g1 (by simp) (fun g e => by simp [Value.ownBlock] at e; omega) : Below w.heap.size w w1)
    have O1 := Lib.hid (show Own w1 w.heap.size v1 xs from o1)
    clear o1 g1
    go_wp2
    go_loopw [4, 5] (fun v t wr => ∃ (ys : List Pu) (b : Bool), ys.length ≤ 60 ∧ t = .bool b ∧ Own wr w.heap.size v ys ∧ Below w.heap.size w wr ∧ Fine ys ∧ fin_ ys = fin_ xs ∧ (b = false → next ys = none)) (fun v t _ => match v, t with | .slice _ n _, .bool b => n * 2 + b.toNat | _, _ => 0)
    case atStart => exact ⟨xs, true, hn, (by first | rfl | trivial), O1.out, B1.out, HF.out, (by first | rfl | trivial), fun h => by cases h⟩
    case round =>
      obtain ⟨ys, b, hy, rfl, hown, hbw, hfi, hfin, hb⟩ := hrel
      rcases hown.rd with ⟨A2, c2, rfl, hr2⟩
      have hc2 : ys.length ≤ c2 := by
        rcases hown with ⟨h, rfl⟩ | ⟨G, cap, more, h, _, _, h1, _, _⟩
        · simp
        · cases h; exact h1
      obtain ⟨n, hl⟩ : ∃ n, ys.length = n := ⟨_, rfl⟩
      rw [hl] at hown hy hc2 ⊢
      have HL := Lib.hid hl; clear hl
      have HO := Lib.hid hown; clear hown
      have HFi := Lib.hid hfi; clear hfi
      have HFin := Lib.hid hfin; clear hfin
      have HB := Lib.hid hb; clear hb
      have HR2 := Lib.hid hr2; clear hr2
      cases b with
      | false =>
        go_wp2
        go_ret2
        refine ⟨_, rfl, ?_, hbw⟩
        rw [← HFin.out, fin_none (HB.out (by simp))]
        exact HO.out
      | true =>
        rcases hx : next ys with _ | zs
        · have HX := Lib.hid hx; clear hx
          go_wp2_with (go_at_call 40; refine (step_none A2 c2 n ys wr HL.out hy HFi.out HR2.out HX.out).mono ?_; rintro e w3 ⟨rfl, b3⟩)
          exact ⟨⟨ys, false, by rw [HL.out]; exact hy, rfl, HO.out.below b3, hbw.trans (b3.mono hbw.size), HFi.out, HFin.out, fun _ => HX.out⟩, by simp⟩
        · have hlen := next_length _ _ hx
          rw [HL.out] at hlen
          have hff := (fin_step hx).symm.trans HFin.out
          have HFF := Lib.hid hff; clear hff
          have HX := Lib.hid hx; clear hx
          go_wp2_with fail
          refine (step_some A2 c2 n ys zs wr HL.out hy hc2 HFi.out HR2.out HX.out).mono ?_
          rintro e w3 ⟨v3, rfl, o3, b3⟩
          have O3 := Lib.hid (o3.mono (B := w.heap.size) hbw.size); clear o3
          obtain ⟨A3, c3, rfl, _⟩ := O3.out.rd
          go_wp2
          exact ⟨⟨zs, true, by omega, rfl, O3.out, hbw.trans (b3.mono hbw.size), fine_next HFi.out HX.out, HFF.out, fun h => by cases h⟩, by simp; omega⟩
theorem specShorten_no (A : Option Addr) (c : Nat) (xs : List Pu) (w : World) (hn : xs.length ≤ 1048576) (hs : isSeq xs = false) (hr : Rd w A xs) :
    Calls Tryz.prog 17 #[.slice A xs.length c] w (Made2 [] 1 w) := by
  have HS := Lib.hid hs; clear hs
  have HR := Lib.hid hr; clear hr
  go_enter Tryz.func17, Tryz.ntmps17
  go_wp2_with (go_at_call 31; refine (l05Is_any _ _ _ _ hn HR.out).mono ?_; rintro e w' ⟨rfl, rfl⟩; rw [HS.out])
  go_ret2
  exact ⟨_, rfl, .inl ⟨rfl, rfl⟩, Below.refl _ _⟩
def shortRes (xs : List Pu) : List Pu := if isSeq xs then fin_ xs else []
def shortCode (xs : List Pu) : Int := if isSeq xs then 0 else 1
theorem implShorten_any (A : Option Addr) (c : Nat) (xs : List Pu) (w : World) (hn : xs.length ≤ 1048576) (hr : Rd w A xs) :
    Calls Tryz.prog 14 #[.slice A xs.length c] w (Made2 (shortRes xs) (shortCode xs) w) := by
  unfold shortRes shortCode
  by_cases h : isSeq xs = true
  · rw [if_pos h, if_pos h]; exact implShorten_yes A c xs w h hr
  · rw [if_neg h, if_neg h]; exact implShorten_no A c xs w hn (by simpa using h) hr
theorem specShorten_any (A : Option Addr) (c : Nat) (xs : List Pu) (w : World) (hn : xs.length ≤ 1048576) (hr : Rd w A xs) :
    Calls Tryz.prog 17 #[.slice A xs.length c] w (Made2 (shortRes xs) (shortCode xs) w) := by
  unfold shortRes shortCode
  by_cases h : isSeq xs = true
  · rw [if_pos h, if_pos h]; exact specShorten_yes A c xs w h hr
  · rw [if_neg h, if_neg h]; exact specShorten_no A c xs w hn (by simpa using h) hr
theorem shortRes_length (xs : List Pu) (hn : xs.length ≤ 1048576) : (shortRes xs).length ≤ 1048576 := by
  unfold shortRes; split
  · exact Nat.le_trans (shortN_length _ _) hn
  · simp
end Go.Proofs.YtdijnjigamkhjaaGreatDoor
