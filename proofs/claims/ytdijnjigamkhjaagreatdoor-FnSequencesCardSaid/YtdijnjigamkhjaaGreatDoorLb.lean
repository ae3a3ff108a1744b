/- The source of draws: how long the run of damages may still be. No program in sight. -/
import Derived.Test.YtdijnjigamkhjaaGreatDoorLa
namespace Go.Proofs.YtdijnjigamkhjaaGreatDoor

/-- The draw is a multiple of three. -/
def hit (X : Nat) : Prop := X / 8589934592 % 3 = 0
/-- At m, and two ahead of it, the draw is none. -/
def stopAt (h m : Nat) : Prop := m % 2 = 0 ∧ ¬ hit (it (m + 1) h) ∧ (m = 0 ∨ ¬ hit (it (m - 1) h))
theorem least {p : Nat → Prop} (h : ∃ n, p n) : ∃ m, p m ∧ ∀ k, p k → m ≤ k := by
  obtain ⟨n, hn⟩ := h
  induction n using Nat.strongRecOn with
  | ind n ih =>
    by_cases hx : ∃ k, k < n ∧ p k
    · obtain ⟨k, hk, hp⟩ := hx
      exact ih k hk hp
    · exact ⟨n, hn, fun k hk => Nat.le_of_not_lt fun hl => hx ⟨k, hl, hk⟩⟩
open Classical in
/-- How many draws the run may still take. -/
noncomputable def runs (h : Nat) : Nat := if hx : ∃ m, stopAt h m then Classical.choose (least hx) else 0
theorem runs_spec {h : Nat} (hx : ∃ m, stopAt h m) : stopAt h (runs h) ∧ ∀ k, stopAt h k → runs h ≤ k := by
  unfold runs
  rw [dif_pos hx]
  exact Classical.choose_spec (least hx)
theorem stops_ex {h : Nat} (hh : h < 18446744073709551616) : ∃ m, stopAt h m ∧ m ≤ 274877906945 := by
  obtain ⟨n, hn, h2, a, b⟩ := lcg_ends (it 1 h) (it_lt hh 1)
  refine ⟨n + 2, ⟨by omega, ?_, .inr ?_⟩, by omega⟩
  · intro hc
    have e : it (n + 2 + 1) h = it (n + 2) (it 1 h) := by rw [Nat.add_comm (n + 2) 1, it_add]
    exact b (by rw [← e]; exact hc)
  · intro hc
    have e : it (n + 2 - 1) h = it n (it 1 h) := by rw [show n + 2 - 1 = 1 + n by omega, it_add]
    exact a (by rw [← e]; exact hc)
theorem runs_le {h : Nat} (hh : h < 18446744073709551616) : runs h ≤ 274877906945 := by
  obtain ⟨m, hm, hl⟩ := stops_ex hh
  exact Nat.le_trans ((runs_spec ⟨m, hm⟩).2 m hm) hl
/-- Behind a test that goes on. -/
theorem runs_step {h j : Nat} (hh : h < 18446744073709551616) (hit0 : hit (it 1 h)) (hj : j = 2 ∨ j = 4) : runs (it j h) + j ≤ runs h := by
  obtain ⟨m0, hm0, _⟩ := stops_ex hh
  obtain ⟨⟨p1, p2, p3⟩, _⟩ := runs_spec ⟨m0, hm0⟩
  generalize runs h = m at *
  have hne : m ≠ 0 := by
    rintro rfl
    exact p2 hit0
  have q3 : ¬ hit (it (m - 1) h) := p3.resolve_left hne
  have hn2 : m ≠ 2 := by
    rintro rfl
    exact q3 hit0
  have hm4 : 4 ≤ m := by omega
  have key : stopAt (it j h) (m - j) := by
    refine ⟨by omega, ?_, ?_⟩
    · intro hc
      have e : it (m - j + 1) (it j h) = it (m + 1) h := by rw [← it_add]; congr 1; omega
      exact p2 (by rw [← e]; exact hc)
    · by_cases h0 : m - j = 0
      · exact .inl h0
      · refine .inr fun hc => ?_
        have e : it (m - j - 1) (it j h) = it (m - 1) h := by rw [← it_add]; congr 1; omega
        exact q3 (by rw [← e]; exact hc)
  have := (runs_spec ⟨_, key⟩).2 _ key
  omega
end Go.Proofs.YtdijnjigamkhjaaGreatDoor
