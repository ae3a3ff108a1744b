/- Walks of the small functions. -/
import Derived.Test.YtdijnjigamkhjaaGreatDoorProg
import Derived.WalkKit
import Derived.WalkLawsBesides
import Derived.WalkSpells
import Derived.Below
import Derived.Outline
import Derived.LoopTactic
import Derived.Lib.Hide
import Derived.OwnWalk
import Derived.StillTailTactics
import Derived.Deep.QuietTactic
import Derived.BigQuiet
namespace Go.Proofs.YtdijnjigamkhjaaGreatDoor
open Go.RowKit

def inB (n lo hi : Int) : Bool := decide (lo ≤ n) && decide (n ≤ hi)
theorem inB_true {n lo hi : Int} (h : lo ≤ n) : inB n lo hi = decide (n ≤ hi) := by simp [inB, h]
theorem inB_false {n lo hi : Int} (h : n < lo) : inB n lo hi = false := by simp [inB]; omega

structure Pu where
  a : Int
  h : Int
  b : Bool
  deriving DecidableEq
def Pu.val (p : Pu) : Value := .agg #[.int .i64 p.a, .int .i64 p.h, .bool p.b]
def Pu.ok (p : Pu) : Bool := inB p.a 0 2 && inB p.h 0 24

theorem within_any (n lo hi : Int) (w : World) : Calls Tryz.prog 70 #[.int .i64 n, .int .i64 lo, .int .i64 hi] w fun e w' => e = .returned (.bool (inB n lo hi)) ∧ w = w' := by
  go_enter Tryz.func70, Tryz.ntmps70
  go_wp2
  · have h : lo ≤ n := by assumption
    go_ret
    exact ⟨by rw [inB_true h]; rfl, rfl⟩
  · have h : n < lo := by assumption
    go_ret
    exact ⟨by rw [inB_false h]; rfl, rfl⟩

theorem l01In_any (n lo hi : Int) (w : World) : Calls Tryz.prog 51 #[.int .i64 n, .int .i64 lo, .int .i64 hi] w fun e w' => e = .returned (.bool (inB n lo hi)) ∧ w = w' := by
  go_enter Tryz.func51, Tryz.ntmps51
  go_wp2
  · have h : lo ≤ n := by assumption
    go_ret
    exact ⟨by rw [inB_true h]; rfl, rfl⟩
  · have h : n < lo := by assumption
    go_ret
    exact ⟨by rw [inB_false h]; rfl, rfl⟩

theorem isAxis_any (n : Int) (w : World) : Calls Tryz.prog 55 #[.int .i64 n] w fun e w' => e = .returned (.bool (inB n 0 2)) ∧ w = w' := by
  go_enter Tryz.func55, Tryz.ntmps55
  go_wp2_with (go_at_call 70; refine (within_any _ _ _ _).mono ?_; rintro e w' ⟨rfl, rfl⟩)
  go_ret
  exact ⟨rfl, rfl⟩
theorem isHalvings_any (n : Int) (w : World) : Calls Tryz.prog 56 #[.int .i64 n] w fun e w' => e = .returned (.bool (inB n 0 24)) ∧ w = w' := by
  go_enter Tryz.func56, Tryz.ntmps56
  go_wp2_with (go_at_call 70; refine (within_any _ _ _ _).mono ?_; rintro e w' ⟨rfl, rfl⟩)
  go_ret
  exact ⟨rfl, rfl⟩
theorem isPulse_any (p : Pu) (w : World) : Calls Tryz.prog 34 #[p.val] w fun e w' => e = .returned (.bool p.ok) ∧ Below w.heap.size w w' := by
  obtain ⟨a, h, b⟩ := p
  unfold Pu.val Pu.ok
  dsimp only
  go_enter Tryz.func34, Tryz.ntmps34
  go_wp2_with (first | (go_at_call 55; refine (isAxis_any _ _).mono ?_; rintro e w' ⟨rfl, rfl⟩) | (go_at_call 56; refine (isHalvings_any _ _).mono ?_; rintro e w' ⟨rfl, rfl⟩))
  · have h0 : inB a 0 2 = true := by assumption
    go_ret
    exact ⟨by rw [h0]; rfl, (Below.refl _ _).alloc (Nat.le_refl _) _⟩
  · have h0 : ¬ inB a 0 2 = true := by assumption
    go_ret
    exact ⟨by rw [Bool.not_eq_true] at h0; rw [h0]; rfl, (Below.refl _ _).alloc (Nat.le_refl _) _⟩

/-- The slice (A, n) reads as xs in w, below block B. -/
def Rd (w : World) (A : Option Addr) (xs : List Pu) : Prop :=
  ∀ k p, xs[k]? = some p → ∃ b off, A = some ⟨b, off, none⟩ ∧ b < w.heap.size ∧ w.cell? ⟨b, off + k * 3, none⟩ = some (.int .i64 p.a) ∧ w.cell? ⟨b, off + k * 3 + 1, none⟩ = some (.int .i64 p.h) ∧ w.cell? ⟨b, off + k * 3 + 2, none⟩ = some (.bool p.b)

theorem Rd.below {w w' : World} {A : Option Addr} {xs : List Pu} (h : Rd w A xs) (hb : Below w.heap.size w w') : Rd w' A xs := by
  intro k p hk
  obtain ⟨b, off, e, hlt, h0, h1, h2⟩ := h k p hk
  exact ⟨b, off, e, Nat.lt_of_lt_of_le hlt hb.size, (hb.cell (p := ⟨b, _, none⟩) hlt).trans h0, (hb.cell (p := ⟨b, _, none⟩) hlt).trans h1, (hb.cell (p := ⟨b, _, none⟩) hlt).trans h2⟩

theorem notPulse_any (p : Pu) (B : Nat) (w : World) (hc : w.cell? ⟨B, 0, none⟩ = some (.func (.func 34) #[] #[])) :
    Calls Tryz.prog 54 #[p.val, .pointer (some ⟨B, 0, none⟩)] w fun e w' => e = .returned (.bool (!p.ok)) ∧ Below w.heap.size w w' := by
  have hB : B < w.heap.size := World.block_lt_of_cell? w ⟨B, 0, none⟩ hc
  obtain ⟨a, h, b⟩ := p
  unfold Pu.val
  go_enter Tryz.func54, Tryz.ntmps54
  go_wp2_with (go_at_call 34; refine (isPulse_any ⟨a, h, b⟩ _).mono ?_; rintro e w' ⟨rfl, hb⟩)
  go_ret
  exact ⟨rfl, ((Below.refl _ _).alloc (Nat.le_refl _) _).trans (hb.mono (by simp))⟩

def IdxPost (xs : List Pu) (w : World) (e : Ending) (w' : World) : Prop :=
  ∃ r : Int, e = .returned (.int .i64 r) ∧ decide (0 ≤ r) = !(xs.all Pu.ok) ∧ Below w.heap.size w w'

theorem all_ok {xs : List Pu} (h : ∀ j p, j < xs.length → xs[j]? = some p → p.ok = true) : xs.all Pu.ok = true := by
  rw [List.all_eq_true]
  intro p hp
  obtain ⟨j, hj, e⟩ := List.mem_iff_getElem.1 hp
  exact h j p hj (by rw [List.getElem?_eq_getElem hj, e])
theorem not_all_ok {xs : List Pu} {k : Nat} {p : Pu} (hk : xs[k]? = some p) (h : p.ok = false) : xs.all Pu.ok = false := by
  rw [List.all_eq_false]
  exact ⟨p, List.mem_of_getElem? hk, by simp [h]⟩

set_option maxHeartbeats 400000 in
theorem indexFunc_any (A : Option Addr) (c B : Nat) (xs : List Pu) (w : World) (hn : xs.length ≤ 1048576) (hr : Rd w A xs) (hc : w.cell? ⟨B, 0, none⟩ = some (.func (.func 34) #[] #[])) :
    Calls Tryz.prog 69 #[.slice A xs.length c, .func (.func 54) #[] #[.pointer (some ⟨B, 0, none⟩)]] w (IdxPost xs w) := by
  have hB : B < w.heap.size := World.block_lt_of_cell? w ⟨B, 0, none⟩ hc
  go_enter Tryz.func69, Tryz.ntmps69
  go_wp2
  go_loopw [8] (fun i wr => ∃ k : Nat, k ≤ xs.length ∧ i = .int .i64 k ∧ (∀ j p, j < k → xs[j]? = some p → p.ok = true) ∧ Below w.heap.size w wr) (fun i _ => xs.length - (intOf i).toNat)
  case atStart => exact ⟨0, Nat.zero_le _, rfl, fun _ _ h => by omega, Below.refl _ _⟩
  case round =>
    obtain ⟨k, hk, rfl, hall, hbw⟩ := hrel
    by_cases hlt : k < xs.length
    · obtain ⟨p, hp⟩ : ∃ p, xs[k]? = some p := ⟨_, List.getElem?_eq_getElem hlt⟩
      obtain ⟨b, off, rfl, hbl, h0, h1, h2⟩ := (hr.below hbw) k p hp
      obtain ⟨pa, ph, pb⟩ := p
      have hcw := (hbw.cell (p := ⟨B, 0, none⟩) hB).trans hc
      have HA := Lib.hid hall; clear hall
      have HP := Lib.hid hp; clear hp
      have HC := Lib.hid hc; clear hc
      go_wp2_with (go_at_call 54; refine (notPulse_any ⟨pa, ph, pb⟩ B _ (by assumption)).mono ?_; rintro e w' ⟨rfl, hb⟩)
      · have hb' : (!Pu.ok ⟨pa, ph, pb⟩) = true := by assumption
        go_ret
        exact ⟨k, rfl, by rw [not_all_ok HP.out (by simpa using hb')]; simp, hbw.trans (hb.mono hbw.size)⟩
      · have hb' : (!Pu.ok ⟨pa, ph, pb⟩) = false := by assumption
        refine ⟨⟨k + 1, by omega, by go_num, fun j p hj hp => ?_, hbw.trans (hb.mono hbw.size)⟩, by simp [intOf]; omega⟩
        rcases Nat.lt_succ_iff_lt_or_eq.1 hj with h | rfl
        · exact HA.out j p h hp
        · have := HP.out.symm.trans hp
          cases this
          simpa using hb'
    · obtain rfl : k = xs.length := by omega
      have HA := Lib.hid hall; clear hall
      go_wp2
      go_ret
      exact ⟨-1, rfl, by rw [all_ok HA.out]; rfl, hbw⟩

theorem containsFunc_any (A : Option Addr) (c B : Nat) (xs : List Pu) (w : World) (hn : xs.length ≤ 1048576) (hr : Rd w A xs) (hc : w.cell? ⟨B, 0, none⟩ = some (.func (.func 34) #[] #[])) :
    Calls Tryz.prog 53 #[.slice A xs.length c, .func (.func 54) #[] #[.pointer (some ⟨B, 0, none⟩)]] w fun e w' => e = .returned (.bool (!(xs.all Pu.ok))) ∧ Below w.heap.size w w' := by
  have hB : B < w.heap.size := World.block_lt_of_cell? w ⟨B, 0, none⟩ hc
  have HR := Lib.hid hr; clear hr
  have HC := Lib.hid hc; clear hc
  go_enter Tryz.func53, Tryz.ntmps53
  go_wp2_with (go_at_call 69; refine (indexFunc_any _ _ _ _ _ hn HR.out HC.out).mono ?_; rintro e w' ⟨r, rfl, hd, hb⟩)
  go_ret
  exact ⟨rfl, hb⟩

theorem areAll_any (A : Option Addr) (c : Nat) (xs : List Pu) (w : World) (hn : xs.length ≤ 1048576) (hr : Rd w A xs) :
    Calls Tryz.prog 33 #[.slice A xs.length c, .func (.func 34) #[] #[]] w fun e w' => e = .returned (.bool (xs.all Pu.ok)) ∧ Below w.heap.size w w' := by
  have HR := Lib.hid hr; clear hr
  go_enter Tryz.func33, Tryz.ntmps33
  go_wp2_with (go_at_call 53; refine (containsFunc_any _ _ _ _ _ hn (HR.out.below ((Below.refl _ _).alloc (Nat.le_refl _) _)) (by simp)).mono ?_; rintro e w' ⟨rfl, hb⟩)
  go_ret
  exact ⟨by simp, ((Below.refl _ _).alloc (Nat.le_refl _) _).trans (hb.mono (by simp))⟩

def isSeq (xs : List Pu) : Bool := decide (xs.length ≤ 60) && xs.all Pu.ok
theorem isSeq_long {xs : List Pu} (h : 60 < xs.length) : isSeq xs = false := by unfold isSeq; simp; omega
theorem isSeq_short {xs : List Pu} (h : xs.length ≤ 60) : isSeq xs = xs.all Pu.ok := by unfold isSeq; simp [h]

theorem implIsSequence_any (A : Option Addr) (c : Nat) (xs : List Pu) (w : World) (hn : xs.length ≤ 1048576) (hr : Rd w A xs) :
    Calls Tryz.prog 8 #[.slice A xs.length c] w fun e w' => e = .returned (.bool (isSeq xs)) ∧ Below w.heap.size w w' := by
  have HR := Lib.hid hr; clear hr
  by_cases h60 : xs.length ≤ 60
  · rw [isSeq_short h60]
    go_enter Tryz.func8, Tryz.ntmps8
    go_wp2_with (go_at_call 33; refine (areAll_any _ _ _ _ hn HR.out).mono ?_; rintro e w' ⟨rfl, hb⟩)
    go_ret
    exact ⟨rfl, hb⟩
  · rw [isSeq_long (by omega)]
    go_enter Tryz.func8, Tryz.ntmps8
    go_wp2_with fail
    go_ret
    exact ⟨rfl, Below.refl _ _⟩

theorem pok_yes {a h : Int} (b : Bool) (h1 : inB a 0 2 = true) (h2 : (!inB h 0 24) = false) : Pu.ok ⟨a, h, b⟩ = true := by
  unfold Pu.ok; rw [h1]; simpa using h2
theorem pok_no1 {a : Int} (h : Int) (b : Bool) (h1 : ¬ inB a 0 2 = true) : Pu.ok ⟨a, h, b⟩ = false := by
  unfold Pu.ok; rw [Bool.not_eq_true] at h1; rw [h1]; rfl
theorem pok_no2 {a h : Int} (b : Bool) (h2 : (!inB h 0 24) = true) : Pu.ok ⟨a, h, b⟩ = false := by
  unfold Pu.ok; have : inB h 0 24 = false := by simpa using h2
  rw [this]; simp
theorem isSeq_not {xs : List Pu} (h : xs.all Pu.ok = false) : isSeq xs = false := by unfold isSeq; rw [h]; simp
theorem isSeq_all {xs : List Pu} (h : xs.all Pu.ok = true) : isSeq xs = decide ((xs.length : Int) ≤ 60) := by unfold isSeq; rw [h, Bool.and_true]; exact decide_eq_decide.2 (by omega)

set_option maxHeartbeats 400000 in
theorem l05Is_any (A : Option Addr) (c : Nat) (xs : List Pu) (w : World) (hn : xs.length ≤ 1048576) (hr : Rd w A xs) :
    Calls Tryz.prog 31 #[.slice A xs.length c] w fun e w' => e = .returned (.bool (isSeq xs)) ∧ w = w' := by
  go_enter Tryz.func31, Tryz.ntmps31
  go_wp2
  go_loop [3] (fun i => ∃ k : Nat, k ≤ xs.length ∧ i = .int .i64 k ∧ (∀ j p, j < k → xs[j]? = some p → p.ok = true)) (fun i => xs.length - (intOf i).toNat)
  case atStart => exact ⟨0, Nat.zero_le _, rfl, fun _ _ h => by omega⟩
  case round =>
    obtain ⟨k, hk, rfl, hall⟩ := hrel
    have HA := Lib.hid hall; clear hall
    by_cases hlt : k < xs.length
    · obtain ⟨p, hp⟩ : ∃ p, xs[k]? = some p := ⟨_, List.getElem?_eq_getElem hlt⟩
      obtain ⟨b, off, rfl, hbl, h0, h1, h2⟩ := hr k p hp
      obtain ⟨pa, ph, pb⟩ := p
      have HP := Lib.hid hp; clear hp
      go_wp2_with (go_at_call 51; refine (l01In_any _ _ _ _).mono ?_; rintro e w' ⟨rfl, rfl⟩)
      · have hy : (!inB ph 0 24) = true := by assumption
        go_ret
        exact ⟨by rw [isSeq_not (not_all_ok HP.out (pok_no2 pb hy))]; rfl, rfl⟩
      · have hx : inB pa 0 2 = true := by assumption
        have hy : (!inB ph 0 24) = false := by assumption
        refine ⟨⟨k + 1, by omega, by go_num, fun j p hj hp => ?_⟩, by simp [intOf]; omega⟩
        rcases Nat.lt_succ_iff_lt_or_eq.1 hj with h | rfl
        · exact HA.out j p h hp
        · have := HP.out.symm.trans hp
          cases this
          exact pok_yes pb hx hy
      · have hx : ¬ inB pa 0 2 = true := by assumption
        go_ret
        exact ⟨by rw [isSeq_not (not_all_ok HP.out (pok_no1 ph pb hx))]; rfl, rfl⟩
    · obtain rfl : k = xs.length := by omega
      go_wp2
      go_ret
      exact ⟨by rw [isSeq_all (all_ok HA.out)]; rfl, rfl⟩

def eqB (p q : Pu) : Bool := decide (p = q)
theorem eqB_true {p q : Pu} (h : (!eqB p q) = false) : p = q := by unfold eqB at h; simpa using h
theorem eqB_false {p q : Pu} (h : (!eqB p q) = true) : p ≠ q := by unfold eqB at h; simpa using h

theorem pu_ne1 {a a' : Int} (h h' : Int) (b b' : Bool) (hn : (a != a') = true) : decide (Pu.mk a h b = Pu.mk a' h' b') = false := by
  have : a ≠ a' := by simpa using hn
  simp [this]
theorem pu_ne2 {h h' : Int} (a a' : Int) (b b' : Bool) (hn : (h != h') = true) : decide (Pu.mk a h b = Pu.mk a' h' b') = false := by
  have : h ≠ h' := by simpa using hn
  simp [this]
theorem pu_ne3 {b b' : Bool} (a a' h h' : Int) (hn : (!b == b') = true) : decide (Pu.mk a h b = Pu.mk a' h' b') = false := by
  have : b ≠ b' := by rintro rfl; simp at hn
  simp [this]
theorem pu_eq {a a' h h' : Int} {b b' : Bool} (h1 : (a != a') = false) (h2 : (h != h') = false) (h3 : (!b == b') = false) : decide (Pu.mk a h b = Pu.mk a' h' b') = true := by
  have e1 : a = a' := by simpa using h1
  have e2 : h = h' := by simpa using h2
  have e3 : b = b' := by cases b <;> cases b' <;> simp_all
  simp [e1, e2, e3]

theorem lists_ne {xs ys : List Pu} {k : Nat} {p q : Pu} (hp : xs[k]? = some p) (hq : ys[k]? = some q) (h : p ≠ q) : xs ≠ ys := by
  rintro rfl
  exact h (by simpa using hp.symm.trans hq)
theorem lists_eq {xs ys : List Pu} {n : Nat} (h1 : xs.length = n) (h2 : ys.length = n) (h : ∀ j, j < n → xs[j]? = ys[j]?) : xs = ys := by
  refine List.ext_getElem? fun j => ?_
  by_cases hj : j < n
  · exact h j hj
  · rw [List.getElem?_eq_none (by omega), List.getElem?_eq_none (by omega)]

end Go.Proofs.YtdijnjigamkhjaaGreatDoor
