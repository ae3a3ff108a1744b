/- Plain laws of sequences: texts read back, inverses, angles, shortening. No program in sight. -/
import Derived.Test.YtdijnjigamkhjaaGreatDoorAn
import Derived.Test.YtdijnjigamkhjaaGreatDoorSp
import Derived.Test.YtdijnjigamkhjaaGreatDoorK
namespace Go.Proofs.YtdijnjigamkhjaaGreatDoor
open Go.RowKit

theorem seq_parts' {xs : List Pu} (h : isSeq xs = true) : xs.length ≤ 60 ∧ ∀ p ∈ xs, p.ok = true := by
  unfold isSeq at h
  simp only [Bool.and_eq_true, decide_eq_true_eq, List.all_eq_true] at h
  exact h
theorem seq_of {xs : List Pu} (h1 : xs.length ≤ 60) (h2 : ∀ p ∈ xs, p.ok = true) : isSeq xs = true := by
  unfold isSeq
  simp only [Bool.and_eq_true, decide_eq_true_eq, List.all_eq_true]
  exact ⟨h1, h2⟩
/-! Inverses. -/
theorem flip_flip (p : Pu) : p.flip.flip = p := by cases p; simp [Pu.flip]
theorem inv_inv (xs : List Pu) : inv (inv xs) = xs := by
  unfold inv
  rw [List.map_reverse, List.reverse_reverse, List.map_map]
  conv => rhs; rw [← List.map_id xs]
  apply List.map_congr_left
  intro p _
  exact flip_flip p
theorem inv_seq {xs : List Pu} (h : isSeq xs = true) : isSeq (inv xs) = true := by
  obtain ⟨h1, h2⟩ := seq_parts' h
  refine seq_of (by simpa [inv] using h1) ?_
  intro p hp
  unfold inv at hp
  rw [List.mem_reverse, List.mem_map] at hp
  obtain ⟨q, hq, rfl⟩ := hp
  exact h2 q hq
/-! Texts. -/
theorem puT_noblank_all : ∀ (a : Fin 3) (h : Fin 25) (b : Bool), (puT ⟨(a.1 : Int), (h.1 : Int), b⟩).all (fun c => c != 32) = true := by decide +kernel
theorem puT_noblank {p : Pu} (h : p.ok = true) : ∀ c ∈ puT p, c ≠ 32 := by
  obtain ⟨ha, k, hk, _, hk2⟩ := ok_parts h
  obtain ⟨a, h', b⟩ := p
  dsimp only at ha hk
  subst hk
  have := puT_noblank_all ⟨a.toNat, by omega⟩ ⟨k, by omega⟩ b
  dsimp only at this
  rw [show ((a.toNat : Nat) : Int) = a by omega] at this
  intro c hc
  have := List.all_eq_true.1 this c hc
  simpa using this
theorem spl_join : ∀ (p : Pu) (xs : List Pu), (∀ q ∈ p :: xs, q.ok = true) → spl (Lib.join ((p :: xs).map puT) [32]) = (p :: xs).map puT := by
  intro p xs
  induction xs generalizing p with
  | nil =>
    intro h
    have e : Lib.join ([p].map puT) [32] = puT p := by simp [Lib.join]
    rw [e]
    exact spl_no (puT_noblank (h p List.mem_cons_self))
  | cons q r ih =>
    intro h
    have e : Lib.join ((p :: q :: r).map puT) [32] = puT p ++ 32 :: Lib.join ((q :: r).map puT) [32] := by simp [Lib.join]
    rw [e, spl_cut _ (puT_noblank (h p List.mem_cons_self)), ih q (fun x hx => h x (List.mem_cons_of_mem _ hx))]
    rfl
theorem seqOf_puT : ∀ xs : List Pu, (∀ q ∈ xs, q.ok = true) → seqOf (xs.map puT) = some xs
  | [], _ => rfl
  | p :: r, h => by
    show seqOf (puT p :: r.map puT) = _
    unfold seqOf
    rw [spw_puT (h p List.mem_cons_self), seqOf_puT r (fun x hx => h x (List.mem_cons_of_mem _ hx))]
theorem puT_ne {p : Pu} (h : p.ok = true) : puT p ≠ [] := by
  intro e
  have := spw_puT h
  rw [e] at this
  cases this
theorem read_text {xs : List Pu} (h : isSeq xs = true) : readL (seqT xs) = some xs := by
  obtain ⟨h1, h2⟩ := seq_parts' h
  cases xs with
  | nil => rfl
  | cons p r =>
    have hs := spl_join p r h2
    have hne : seqT (p :: r) ≠ [] := by
      intro e
      unfold seqT at e
      rw [e] at hs
      have : ([[]] : List (List UInt8)) = puT p :: r.map puT := hs
      injection this with e1 _
      exact puT_ne (h2 p List.mem_cons_self) e1.symm
    unfold readL
    rw [if_neg hne]
    unfold seqT at hs ⊢
    rw [hs, if_neg (by simpa using h1)]
    exact seqOf_puT _ h2
theorem text_back {xs : List Pu} (h : isSeq xs = true) : prV (seqT xs) = xs ∧ prC (seqT xs) = 0 := by
  unfold prV prC
  rw [read_text h]
  exact ⟨rfl, rfl⟩
/-! Angles, by axis. -/
def sAx (i : Nat) : List Pu → Int
  | [] => 0
  | p :: r => (if p.a.toNat = i then turnOf p else 0) + sAx i r
theorem sAx_append (i : Nat) (xs ys : List Pu) : sAx i (xs ++ ys) = sAx i xs + sAx i ys := by
  induction xs with
  | nil => simp [sAx]
  | cons p r ih => simp only [List.cons_append, sAx, ih]; omega
theorem fold_ax : ∀ (xs : List Pu) (x y z : Int), xs.foldl angAdd [x, y, z] = [x + sAx 0 xs, y + sAx 1 xs, z + sAx 2 xs]
  | [], x, y, z => by simp [sAx]
  | p :: r, x, y, z => by
    rw [List.foldl_cons]
    have e : angAdd [x, y, z] p = [x + (if p.a.toNat = 0 then turnOf p else 0), y + (if p.a.toNat = 1 then turnOf p else 0), z + (if p.a.toNat = 2 then turnOf p else 0)] := by
      unfold angAdd
      match h : p.a.toNat with
      | 0 => simp
      | 1 => simp
      | 2 => simp
      | k + 3 => simp
    rw [e, fold_ax r]
    simp only [sAx]
    simp only [Int.add_assoc]
theorem ang_ax (xs : List Pu) : ang xs = [sAx 0 xs, sAx 1 xs, sAx 2 xs] := by
  unfold ang
  rw [fold_ax]
  simp
theorem turn_flip (p : Pu) : turnOf p.flip = - turnOf p := by
  unfold turnOf Pu.flip
  cases p.b <;> simp
theorem sAx_inv (i : Nat) (xs : List Pu) : sAx i (inv xs) = - sAx i xs := by
  induction xs with
  | nil => rfl
  | cons p r ih =>
    rw [inv_cons, sAx_append, ih]
    simp only [sAx, turn_flip]
    have e : p.flip.a = p.a := rfl
    rw [e]
    split <;> omega
theorem sAx_red {a b : Pu} {v : List Pu} (h : red a b = some v) (ha : a.ok = true) (i : Nat) : sAx i v = sAx i [a, b] := by
  obtain ⟨_, k, hk, _, hk2⟩ := ok_parts ha
  unfold red at h
  split at h
  · cases h
  · rename_i hab
    have e1 : a.a = b.a := Classical.byContradiction fun h => hab (.inl h)
    have e2 : a.h = b.h := Classical.byContradiction fun h => hab (.inr h)
    split at h
    · rename_i hb
      cases h
      simp only [sAx, ← e1]
      have : turnOf a + turnOf b = 0 := by
        unfold turnOf
        rw [← e2]
        cases h1 : a.b <;> cases h2 : b.b <;> simp_all <;> omega
      split <;> omega
    · rename_i hb
      have hb' : a.b = b.b := Classical.byContradiction hb
      split at h
      · cases h
      · rename_i h0
        cases h
        simp only [sAx, ← e1]
        have : turnOf ⟨a.a, a.h - 1, a.b⟩ = turnOf a + turnOf b := by
          unfold turnOf
          dsimp only
          rw [← e2, ← hb']
          have ep : (2 : Int) ^ (24 - (a.h - 1)).toNat = 2 ^ (24 - a.h).toNat + 2 ^ (24 - a.h).toNat := by
            rw [show (24 - (a.h - 1)).toNat = (24 - a.h).toNat + 1 by omega, Int.pow_succ]
            omega
          rw [ep]
          split <;> omega
        rw [this]
        split <;> omega
theorem red_ok {a b : Pu} {v : List Pu} (h : red a b = some v) (ha : a.ok = true) : ∀ p ∈ v, p.ok = true := by
  unfold red at h
  split at h
  · cases h
  · split at h
    · cases h; intro p hp; cases hp
    · split at h
      · cases h
      · rename_i h0
        cases h
        intro p hp
        rw [List.mem_singleton.1 hp]
        unfold Pu.ok inB at *
        simp at *
        omega
theorem next_keeps : ∀ (ys zs : List Pu), next ys = some zs → (∀ p ∈ ys, p.ok = true) → (∀ i, sAx i zs = sAx i ys) ∧ ∀ p ∈ zs, p.ok = true
  | [], _, h, _ => by cases h
  | [_], _, h, _ => by cases h
  | a :: b :: r, zs, h, hok => by
    simp only [next] at h
    split at h
    · rename_i v hv
      cases h
      have ha := hok a List.mem_cons_self
      refine ⟨fun i => ?_, ?_⟩
      · rw [sAx_append, sAx_red hv ha i]
        simp only [sAx]
        omega
      · intro p hp
        rcases List.mem_append.1 hp with h | h
        · exact red_ok hv ha p h
        · exact hok p (by simp [h])
    · cases hn : next (b :: r) with
      | none => rw [hn] at h; cases h
      | some z =>
        rw [hn] at h
        cases h
        obtain ⟨i1, i2⟩ := next_keeps (b :: r) z hn (fun p hp => hok p (List.mem_cons_of_mem _ hp))
        refine ⟨fun i => ?_, ?_⟩
        · have := i1 i
          simp only [sAx] at this ⊢
          omega
        · intro p hp
          rcases List.mem_cons.1 hp with rfl | h
          · exact hok _ List.mem_cons_self
          · exact i2 p h
theorem shortN_keeps : ∀ (f : Nat) (ys : List Pu), (∀ p ∈ ys, p.ok = true) → (∀ i, sAx i (shortN f ys) = sAx i ys) ∧ ∀ p ∈ shortN f ys, p.ok = true
  | 0, _, h => ⟨fun _ => rfl, h⟩
  | f + 1, ys, h => by
    simp only [shortN]
    split
    · rename_i zs hz
      obtain ⟨i1, i2⟩ := next_keeps ys zs hz h
      obtain ⟨j1, j2⟩ := shortN_keeps f zs i2
      exact ⟨fun i => (j1 i).trans (i1 i), j2⟩
    · exact ⟨fun _ => rfl, h⟩
/-- Nothing is left to shorten. -/
theorem shortN_end : ∀ (f : Nat) (ys : List Pu), ys.length ≤ f → next (shortN f ys) = none
  | 0, ys, h => by
    obtain rfl : ys = [] := List.eq_nil_of_length_eq_zero (by omega)
    rfl
  | f + 1, ys, h => by
    simp only [shortN]
    split
    · rename_i zs hz
      have := next_length ys zs hz
      exact shortN_end f zs (by omega)
    · rename_i hz
      exact hz
theorem fin_fin (ys : List Pu) : fin_ (fin_ ys) = fin_ ys := fin_none (shortN_end _ _ (Nat.le_refl _))
theorem fin_seq {xs : List Pu} (h : isSeq xs = true) : isSeq (fin_ xs) = true ∧ ang (fin_ xs) = ang xs ∧ (fin_ xs).length ≤ xs.length := by
  obtain ⟨h1, h2⟩ := seq_parts' h
  have hk := shortN_keeps xs.length xs h2
  have hl := shortN_length xs.length xs
  refine ⟨seq_of (Nat.le_trans hl h1) hk.2, ?_, hl⟩
  rw [ang_ax, ang_ax]
  unfold fin_
  rw [hk.1, hk.1, hk.1]
theorem ang_inv (xs : List Pu) : ang (inv xs) = [-sAx 0 xs, -sAx 1 xs, -sAx 2 xs] := by
  rw [ang_ax, sAx_inv, sAx_inv, sAx_inv]
end Go.Proofs.YtdijnjigamkhjaaGreatDoor
