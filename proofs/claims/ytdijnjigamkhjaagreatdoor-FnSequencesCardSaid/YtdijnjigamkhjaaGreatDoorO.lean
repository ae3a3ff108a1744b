/- Walks: the reference reads a sequence, to the end. -/
import Derived.Test.YtdijnjigamkhjaaGreatDoorN
namespace Go.Proofs.YtdijnjigamkhjaaGreatDoor
open Go.RowKit

theorem l05Read_none (w : World) : Calls Tryz.prog 45 #[.string ⟨([] : List UInt8).toArray⟩] w (RdPost [] w) := by
  have he : (⟨([] : List UInt8).toArray⟩ : ByteArray).toList.isEmpty = true := by rw [toList_list]; rfl
  have H0 := Lib.hid (heap_alloc_new w (.cells #[] 43))
  have B0 := Lib.hid ((Below.refl w.heap.size w).alloc (Nat.le_refl _) (.cells #[] 43))
  have e1 : (readL []).isSome = true := rfl
  have e2 : prV [] = [] := rfl
  unfold RdPost
  rw [e1, e2]
  generalize (⟨([] : List UInt8).toArray⟩ : ByteArray) = S at *
  go_enter Tryz.func45, Tryz.ntmps45
  go_wp2
  go_ret2
  exact ⟨_, rfl, own_empty (Nat.le_refl _) H0.out, B0.out⟩
theorem l05Read_long (l : List UInt8) (w : World) (hl : l.length ≤ 1099511627776) (h0 : l ≠ []) (h60 : 60 < (spl l).length) : Calls Tryz.prog 45 #[.string ⟨l.toArray⟩] w (RdPost l w) := by
  have KS := Lib.hid (fun w => l01Split_any l w hl)
  have he : (⟨l.toArray⟩ : ByteArray).toList.isEmpty = false := by rw [toList_list]; cases l with | nil => exact absurd rfl h0 | cons c r => rfl
  have hrd : readL l = none := by unfold readL; rw [if_neg h0, if_pos h60]
  have e1 : (readL l).isSome = false := by rw [hrd]; rfl
  have e2 : prV l = [] := by unfold prV; rw [hrd]; rfl
  have B0 := Lib.hid ((Below.refl w.heap.size w).alloc (Nat.le_refl _) (.cells #[] 43))
  unfold RdPost MadeW at *
  rw [e1, e2]
  clear e1 e2 hrd h0 hl
  generalize spl l = ws at *
  generalize (⟨l.toArray⟩ : ByteArray) = S at *
  have e60 : (60 : Int) < (ws.length : Int) := by omega
  go_enter Tryz.func45, Tryz.ntmps45
  go_wp2_with fail
  refine (KS.out _).mono ?_
  rintro e w1 ⟨v1, rfl, o1, b1⟩
  have B1 := Lib.hid (B0.out.trans (b1.mono B0.out.size))
  obtain ⟨_, ⟨rfl, hn0⟩ | ⟨W, cap, cur, rfl, hW, hh, hcap, hmax, hs, ht⟩⟩ := id o1
  · omega
  clear o1 b1 hh hs ht B0 KS
  go_wp2
  go_ret2
  exact ⟨_, rfl, .inl ⟨rfl, rfl⟩, B1.out⟩
theorem l05Read_any (l : List UInt8) (w : World) (hl : l.length ≤ 1099511627776) : Calls Tryz.prog 45 #[.string ⟨l.toArray⟩] w (RdPost l w) := by
  by_cases h0 : l = []
  · subst h0; exact l05Read_none w
  · by_cases h60 : (spl l).length ≤ 60
    · exact l05Read_loop l w hl h0 h60
    · exact l05Read_long l w hl h0 (by omega)
/-- The call hands back a new list of pulses and a code. -/
def MadeP (xs : List Pu) (k : Int) (w : World) (e : Ending) (w' : World) : Prop := ∃ v, e = .returned (.tuple #[v, .int .i64 k]) ∧ Own w' w.heap.size v xs ∧ Below w.heap.size w w'
theorem specParse_any (l : List UInt8) (w : World) (hl : l.length ≤ 1099511627776) : Calls Tryz.prog 26 #[.string ⟨l.toArray⟩] w (MadeP (prV l) (prC l) w) := by
  have KS := Lib.hid (fun w => l05Read_any l w hl)
  unfold RdPost MadeP at *
  obtain ⟨ok, hok⟩ : ∃ ok, (readL l).isSome = ok := ⟨_, rfl⟩
  obtain ⟨qs, hqs⟩ : ∃ qs, prV l = qs := ⟨_, rfl⟩
  have hc : prC l = if ok then 0 else 6 := by unfold prC; rw [hok]
  have hq0 : ok = false → qs = [] := by
    intro h
    rw [← hqs]; unfold prV
    cases hr : readL l with
    | none => rfl
    | some ps => rw [hr] at hok; rw [h] at hok; cases hok
  rw [hc, hqs]
  rw [hok, hqs] at KS
  have HQ := Lib.hid hq0
  clear hok hqs hc hq0 hl
  generalize (⟨l.toArray⟩ : ByteArray) = S at *
  cases ok with
  | true =>
    go_enter Tryz.func26, Tryz.ntmps26
    go_wp2_with fail
    refine (KS.out _).mono ?_
    rintro e w1 ⟨v1, rfl, o1, b1⟩
    have O1 := Lib.hid o1; have B1 := Lib.hid b1; clear o1 b1
    go_wp2
    go_ret2
    exact ⟨_, rfl, O1.out, B1.out⟩
  | false =>
    go_enter Tryz.func26, Tryz.ntmps26
    go_wp2_with fail
    refine (KS.out _).mono ?_
    rintro e w1 ⟨v1, rfl, o1, b1⟩
    have B1 := Lib.hid b1; clear o1 b1
    go_wp2
    go_ret2
    exact ⟨_, rfl, .inl ⟨rfl, HQ.out trivial⟩, B1.out⟩
end Go.Proofs.YtdijnjigamkhjaaGreatDoor
