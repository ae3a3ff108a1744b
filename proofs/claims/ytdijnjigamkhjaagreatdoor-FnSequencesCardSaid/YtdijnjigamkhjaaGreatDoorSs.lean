/- Shortening a list of pulses, the program's and the reference's. -/
import Derived.Test.YtdijnjigamkhjaaGreatDoorSr
import Derived.Deep.RegionWith
namespace Go.Proofs.YtdijnjigamkhjaaGreatDoor
open Go.RowKit

def Shortened (p q : Pu) (w : World) (e : Ending) (w' : World) : Prop :=
  ∃ A c n, e = .returned (.tuple #[.slice A n c, .bool (red p q).isSome]) ∧ n = ((red p q).getD []).length ∧ Rd w' A ((red p q).getD []) ∧ Below w.heap.size w w'

theorem red_ne {p q : Pu} (h : p.a ≠ q.a ∨ p.h ≠ q.h) : red p q = none := by unfold red; rw [if_pos h]
theorem red_drop {p q : Pu} (h1 : p.a = q.a) (h2 : p.h = q.h) (h3 : p.b ≠ q.b) : red p q = some [] := by unfold red; rw [if_neg (by simp [h1, h2]), if_pos h3]
theorem red_stay {p q : Pu} (h1 : p.a = q.a) (h2 : p.h = q.h) (h3 : p.b = q.b) (h4 : p.h = 0) : red p q = none := by unfold red; rw [if_neg (by simp [h1, h2]), if_neg (by simp [h3]), if_pos h4]
theorem red_one {p q : Pu} (h1 : p.a = q.a) (h2 : p.h = q.h) (h3 : p.b = q.b) (h4 : p.h ≠ 0) : red p q = some [⟨p.a, p.h - 1, p.b⟩] := by unfold red; rw [if_neg (by simp [h1, h2]), if_neg (by simp [h3]), if_neg h4]
theorem rd_one_at (w : World) (p : Pu) (g : Nat) (hg : w.heap.size = g) : Rd (w.alloc (.cells #[.int .i64 p.a, .int .i64 p.h, .bool p.b] 43)) (some ⟨g, 0, none⟩) [p] := hg ▸ rd_one w p
theorem rd_empty (w : World) (A : Option Addr) : Rd w A [] := fun k p h => by simp at h

theorem shortened_any (p q : Pu) (w : World) (hh : 0 ≤ p.h) (hh2 : p.h ≤ 24) : Calls Tryz.prog 38 #[p.val, q.val] w (Shortened p q w) := by
  obtain ⟨a, h, b⟩ := p
  obtain ⟨a', h', b'⟩ := q
  unfold Pu.val
  dsimp only at hh hh2 ⊢
  go_enter Tryz.func38, Tryz.ntmps38
  go_wp2
  · have hxa : a = a' := by assumption
    subst hxa
    have hx : (h != h') = true := by assumption
    have hr : red ⟨a, h, b⟩ ⟨a, h', b'⟩ = none := red_ne (.inr (by simpa using hx))
    go_ret2
    exact ⟨none, 0, 0, by rw [hr]; rfl, by rw [hr]; rfl, by rw [hr]; exact rd_empty _ _, ((Below.refl _ _).alloc (Nat.le_refl _) _).alloc (by simp) _⟩
  · have hxa : a = a' := by assumption
    subst hxa
    have hx : (h != h') = false := by assumption
    have hy : (!b == b') = true := by assumption
    have hr : red ⟨a, h, b⟩ ⟨a, h', b'⟩ = some [] := red_drop rfl (by simpa using hx) (by rintro rfl; simp at hy)
    go_ret2
    exact ⟨none, 0, 0, by rw [hr]; rfl, by rw [hr]; rfl, by rw [hr]; exact rd_empty _ _, ((Below.refl _ _).alloc (Nat.le_refl _) _).alloc (by simp) _⟩
  · have hxa : a = a' := by assumption
    subst hxa
    have hx : (h != h') = false := by assumption
    have hy : (!b == b') = false := by assumption
    have hz : (h == 0) = true := by assumption
    have hr : red ⟨a, h, b⟩ ⟨a, h', b'⟩ = none := red_stay rfl (by simpa using hx) (by cases b <;> cases b' <;> simp_all) (by simpa using hz)
    go_ret2
    exact ⟨none, 0, 0, by rw [hr]; rfl, by rw [hr]; rfl, by rw [hr]; exact rd_empty _ _, ((Below.refl _ _).alloc (Nat.le_refl _) _).alloc (by simp) _⟩
  · have hxa : a = a' := by assumption
    subst hxa
    have hx : (h != h') = false := by assumption
    have hy : (!b == b') = false := by assumption
    have hz : (h == 0) = false := by assumption
    have hr : red ⟨a, h, b⟩ ⟨a, h', b'⟩ = some [⟨a, h - 1, b⟩] := red_one rfl (by simpa using hx) (by cases b <;> cases b' <;> simp_all) (by simpa using hz)
    go_ret2
    exact ⟨_, _, 1, by rw [hr]; rfl, by rw [hr]; rfl, by rw [hr]; exact rd_one_at _ ⟨a, h - 1, b⟩ _ (by simp), (((Below.refl _ _).alloc (Nat.le_refl _) _).alloc (by simp) _).alloc (by simp; omega) _⟩
  · have hx : ¬ a = a' := by assumption
    have hr : red ⟨a, h, b⟩ ⟨a', h', b'⟩ = none := red_ne (.inl hx)
    go_ret2
    exact ⟨none, 0, 0, by rw [hr]; rfl, by rw [hr]; rfl, by rw [hr]; exact rd_empty _ _, ((Below.refl _ _).alloc (Nat.le_refl _) _).alloc (by simp) _⟩

def Fine (xs : List Pu) : Prop := ∀ (k : Nat) (p : Pu), xs[k]? = some p → 0 ≤ p.h ∧ p.h ≤ 24
theorem fine_of_seq {xs : List Pu} (h : isSeq xs = true) : Fine xs := by
  intro k p hk
  have h2 : xs.all Pu.ok = true := by unfold isSeq at h; simp at h ⊢; exact h.2
  have := List.all_eq_true.1 h2 p (List.mem_of_getElem? hk)
  unfold Pu.ok inB at this
  simp at this
  exact this.2
theorem fine_repl {xs vs : List Pu} {i : Nat} {p q : Pu} (hx : Fine xs) (hp : xs[i]? = some p) (hr : red p q = some vs) : Fine (repl xs i vs) := by
  intro k r hk
  have hm := List.mem_of_getElem? hk
  unfold repl at hm
  rw [List.mem_append, List.mem_append] at hm
  have hin : ∀ r, r ∈ xs → 0 ≤ r.h ∧ r.h ≤ 24 := fun r h => by
    obtain ⟨j, hj, e⟩ := List.mem_iff_getElem.1 h
    exact hx j r (by rw [List.getElem?_eq_getElem hj, e])
  rcases hm with (h | h) | h
  · exact hin r (List.mem_of_mem_take h)
  · have hp' := hx i p hp
    unfold red at hr
    split at hr
    · cases hr
    · split at hr
      · cases hr; cases h
      · split at hr
        · cases hr
        · rename_i hne
          cases hr
          simp at h
          subst h
          simp
          omega
  · exact hin r (List.mem_of_mem_drop h)

set_option maxHeartbeats 1000000 in
theorem implShorten_yes (A : Option Addr) (c : Nat) (xs : List Pu) (w : World) (hs : isSeq xs = true) (hr : Rd w A xs) :
    Calls Tryz.prog 14 #[.slice A xs.length c] w (Made2 (fin_ xs) 0 w) := by
  have hn : xs.length ≤ 60 := by unfold isSeq at hs; simp at hs; exact hs.1
  have hf := fine_of_seq hs
  have HS := Lib.hid hs; clear hs
  have HR := Lib.hid hr; clear hr
  have HF := Lib.hid hf; clear hf
  go_enter Tryz.func14, Tryz.ntmps14
  go_wp2_with (go_at_call 8; refine (implIsSequence_any _ _ _ _ (by omega) HR.out).mono ?_; rintro e w1 ⟨rfl, b1⟩; rw [HS.out])
  refine (clone_any _ _ _ _ (by omega) (HR.out.below b1)).mono ?_
  rintro e w2 ⟨v, rfl, o2, b2⟩
  have O2 := Lib.hid (o2.mono b1.size); clear o2
  have B2 : Below w.heap.size w w2 := b1.trans (b2.mono b1.size)
  go_wp2
  go_loopw [4, 5] (fun v i wr => ∃ (ys : List Pu) (k : Nat), ys.length ≤ 60 ∧ k ≤ ys.length ∧ i = .int .i64 k ∧ Own wr w.heap.size v ys ∧ Below w.heap.size w wr ∧ Fine ys ∧ fin_ ys = fin_ xs ∧ (∀ j p q, j < k → ys[j]? = some p → ys[j + 1]? = some q → red p q = none)) (fun v i _ => match v with | .slice _ n _ => n * 61 + 61 - (intOf i).toNat | _ => 0)
  case atStart => exact ⟨xs, 0, hn, Nat.zero_le _, rfl, O2.out, B2, HF.out, rfl, fun _ _ _ h => by omega⟩
  case round =>
    obtain ⟨ys, k, hy, hk, rfl, hown, hbw, hfi, hfin, hall⟩ := hrel
    obtain ⟨A3, c3, rfl, hr3⟩ := hown.rd
    obtain ⟨n, hl⟩ : ∃ n, ys.length = n := ⟨_, rfl⟩
    rw [hl] at hown hy hk ⊢
    have HL := Lib.hid hl; clear hl
    have HO := Lib.hid hown; clear hown
    have HFi := Lib.hid hfi; clear hfi
    have HFin := Lib.hid hfin; clear hfin
    have HA := Lib.hid hall; clear hall
    by_cases hlt : k + 1 < n
    · obtain ⟨p, hp⟩ : ∃ p, ys[k]? = some p := ⟨_, List.getElem?_eq_getElem (by rw [HL.out]; omega)⟩
      obtain ⟨q, hq⟩ : ∃ q, ys[k + 1]? = some q := ⟨_, List.getElem?_eq_getElem (by rw [HL.out]; omega)⟩
      obtain ⟨b, off, rfl, hbl, c0, c1, c2⟩ := hr3 k p hp
      obtain ⟨b', off', e', hbl', d0, d1, d2⟩ := hr3 (k + 1) q hq
      cases e'
      have hph := HFi.out k p hp
      have HR3 := Lib.hid hr3; clear hr3
      obtain ⟨pa, ph, pb⟩ := p
      obtain ⟨qa, qh, qb⟩ := q
      have HP := Lib.hid hp; clear hp
      have HQ := Lib.hid hq; clear hq
      have hkn : k < n := by omega
      have hknI : (k : Int) + 1 < (n : Int) := by omega
      have HPH := Lib.hid hph; clear hph
      go_wp2
      have hw1 : IntKind.i64.wrap ((k : Int) + 1) = (k : Int) + 1 := by rw [IntKind.wrap_i64]; omega
      have hk0 : (0 : Int) ≤ (k : Int) + 1 := by omega
      have hkt : ((k : Int) + 1).toNat = k + 1 := by omega
      go_region_with (go_at_call 38; refine (shortened_any ⟨pa, ph, pb⟩ ⟨qa, qh, qb⟩ _ HPH.out.1 HPH.out.2).mono ?_; rintro e w4 ⟨A4, c4, n4, rfl, hn4, hr4, b4⟩)
      all_goals
        clear hw1 hk0 hkt
        have HO4 := Lib.hid ((show Own wr.drew w.heap.size _ ys from HO.out).below b4)
        have HB4 := Lib.hid (hbw.drew.trans (b4.mono (B' := w.heap.size) hbw.size))
        clear b4
        rcases hrd : red ⟨pa, ph, pb⟩ ⟨qa, qh, qb⟩ with _ | vs
        · clear hr4 hn4
          have HRD := Lib.hid hrd
          simp only [Option.isSome_none]
          clear hrd
          go_wp2
          refine ⟨⟨ys, k + 1, by rw [HL.out]; exact hy, by rw [HL.out]; omega, by go_num, HO4.out, HB4.out, HFi.out, HFin.out, ?_⟩, by simp [intOf]; omega⟩
          intro j p q hj hp hq
          rcases Nat.lt_succ_iff_lt_or_eq.1 hj with h | rfl
          · exact HA.out j p q h hp hq
          · have e1 := HP.out.symm.trans hp
            have e2 := HQ.out.symm.trans hq
            cases e1
            cases e2
            exact HRD.out
        · have hv1 := red_length hrd
          have HR4 := Lib.hid (by rw [hrd] at hr4; exact hr4 : Rd w4 A4 vs)
          clear hr4 hn4
          have HRD := Lib.hid hrd
          simp only [Option.isSome_some]
          clear hrd
          obtain ⟨j, hj⟩ : ∃ j, k + 2 = j := ⟨_, rfl⟩
          have ej : (k : Int) + 2 = (j : Int) := by omega
          have HJ := Lib.hid hj
          have hjn : j ≤ n := by omega
          clear hj
          go_wp2_with fail
          refine (replace_any w.heap.size _ ys vs A4 c4 k j n vs.length _ HL.out rfl HJ.out hjn hv1 (by omega) HO4.out HR4.out).mono ?_
          rintro e w5 ⟨v5, rfl, o5, g5⟩
          have HB5 := Lib.hid (HB4.out.grown g5 HB4.out.size (fun g e => (HO4.out.base g e).1))
          have hnx : next ys = some (repl ys k vs) := next_at k ys _ _ vs HP.out HQ.out HRD.out HA.out
          have hlen := next_length _ _ hnx
          rw [HL.out] at hlen
          have hfr : Fine (repl ys k vs) := fine_repl HFi.out HP.out HRD.out
          have hff : fin_ (repl ys k vs) = fin_ xs := by rw [← HFin.out]; exact (fin_step hnx).symm
          have HFR := Lib.hid hfr
          have HFF := Lib.hid hff
          have HO5 := Lib.hid o5
          have HLEN := Lib.hid hlen
          clear hnx hfr hff o5 hlen g5 ej
          obtain ⟨A5, c5, rfl, _⟩ := HO5.out.rd
          go_wp2
          have hlen := HLEN.out
          exact ⟨⟨repl ys k vs, 0, by omega, Nat.zero_le _, rfl, HO5.out, HB5.out, HFR.out, HFF.out, fun _ _ _ h => by omega⟩, by simp [intOf]; omega⟩
    · clear hr3
      have hkn : ¬ ((k : Int) + 1 < (n : Int)) := by omega
      go_wp2
      go_ret2
      have hnx : next ys = none := next_none ys fun j p q hp hq => HA.out j p q (by have := Row.k_lt hq; have := HL.out; omega) hp hq
      refine ⟨_, rfl, ?_, hbw⟩
      rw [← HFin.out, fin_none hnx]
      exact HO.out

theorem implShorten_no (A : Option Addr) (c : Nat) (xs : List Pu) (w : World) (hn : xs.length ≤ 1048576) (hs : isSeq xs = false) (hr : Rd w A xs) :
    Calls Tryz.prog 14 #[.slice A xs.length c] w (Made2 [] 1 w) := by
  have HS := Lib.hid hs; clear hs
  have HR := Lib.hid hr; clear hr
  go_enter Tryz.func14, Tryz.ntmps14
  go_wp2_with (go_at_call 8; refine (implIsSequence_any _ _ _ _ hn HR.out).mono ?_; rintro e w1 ⟨rfl, b1⟩; rw [HS.out])
  go_ret2
  exact ⟨_, rfl, .inl ⟨rfl, rfl⟩, b1⟩
end Go.Proofs.YtdijnjigamkhjaaGreatDoor
