/- Plain laws: sequences read from texts. No program in sight. -/
import Derived.Test.YtdijnjigamkhjaaGreatDoorH
namespace Go.Proofs.YtdijnjigamkhjaaGreatDoor
open Go.RowKit

/-! Words between blanks. -/
def spl : List UInt8 → List (List UInt8)
  | [] => [[]]
  | c :: r => if c = 32 then [] :: spl r else match spl r with | [] => [[c]] | w :: ws => (c :: w) :: ws
theorem spl_ne (l : List UInt8) : spl l ≠ [] := by
  cases l with
  | nil => exact nofun
  | cons c r =>
    unfold spl
    split
    · exact nofun
    · split <;> exact nofun
theorem spl_blank (r : List UInt8) : spl (32 :: r) = [] :: spl r := by
  conv => lhs; unfold spl
  rw [if_pos rfl]
theorem spl_other {c : UInt8} (h : c ≠ 32) {r w : List UInt8} {ws : List (List UInt8)} (hs : spl r = w :: ws) : spl (c :: r) = (c :: w) :: ws := by
  conv => lhs; unfold spl
  rw [if_neg h, hs]
theorem spl_no {l : List UInt8} (h : ∀ c ∈ l, c ≠ 32) : spl l = [l] := by
  induction l with
  | nil => rfl
  | cons c r ih => exact spl_other (h c List.mem_cons_self) (ih (fun d hd => h d (List.mem_cons_of_mem _ hd)))
theorem spl_cut {a : List UInt8} (b : List UInt8) (h : ∀ c ∈ a, c ≠ 32) : spl (a ++ 32 :: b) = a :: spl b := by
  induction a with
  | nil => exact spl_blank b
  | cons c r ih => exact spl_other (h c List.mem_cons_self) (ih (fun d hd => h d (List.mem_cons_of_mem _ hd)))
theorem spl_length (l : List UInt8) : (spl l).length ≤ l.length + 1 := by
  induction l with
  | nil => exact Nat.le_refl _
  | cons c r ih =>
    unfold spl
    split
    · simpa using ih
    · split
      · simp
      · rename_i h; rw [h] at ih; simp at ih ⊢; omega
/-- One word at the blank at place i. -/
theorem spl_at {l : List UInt8} {i : Nat} (hi : l[i]? = some 32) (hn : ∀ k, k < i → l[k]? ≠ some 32) : spl l = l.take i :: spl (l.drop (i + 1)) := by
  have hl : i < l.length := (List.getElem?_eq_some_iff.1 hi).1
  have e : l = l.take i ++ 32 :: l.drop (i + 1) := by
    have h1 := (List.getElem?_eq_some_iff.1 hi).2
    conv => lhs; rw [← List.take_append_drop i l, List.drop_eq_getElem_cons hl, h1]
  have hno : ∀ c ∈ l.take i, c ≠ 32 := by
    intro c hc he
    obtain ⟨k, hk, hk2⟩ := List.mem_iff_getElem.1 hc
    have hk3 : k < i := by rw [List.length_take] at hk; omega
    refine hn k hk3 ?_
    rw [List.getElem_take] at hk2
    rw [List.getElem?_eq_getElem (by omega), hk2, he]
  conv => lhs; rw [e]
  exact spl_cut _ hno
theorem spl_none {l : List UInt8} (hn : ∀ k, k < l.length → l[k]? ≠ some 32) : spl l = [l] := by
  refine spl_no fun c hc he => ?_
  obtain ⟨k, hk, hk2⟩ := List.mem_iff_getElem.1 hc
  exact hn k hk (by rw [List.getElem?_eq_getElem hk, hk2, he])

theorem spl_mem {l x : List UInt8} (h : x ∈ spl l) : x.length ≤ l.length := by
  induction l generalizing x with
  | nil =>
    have : x = [] := by simpa [spl] using h
    rw [this]; exact Nat.le_refl _
  | cons c r ih =>
    by_cases hc : c = 32
    · rw [hc, spl_blank] at h
      rcases List.mem_cons.1 h with rfl | h
      · simp
      · have := ih h; simp; omega
    · cases hs : spl r with
      | nil => exact absurd hs (spl_ne r)
      | cons w ws =>
        rw [spl_other hc hs] at h
        rcases List.mem_cons.1 h with rfl | h
        · have := ih (x := w) (by rw [hs]; exact List.mem_cons_self); simp; omega
        · have := ih (x := x) (by rw [hs]; exact List.mem_cons_of_mem _ h); simp; omega

/-! Decimal numbers, as the reference reads them. -/
def digit (c : UInt8) : Bool := decide (48 ≤ c.toNat) && decide (c.toNat ≤ 57)
def vald (d : List UInt8) : Int := d.foldl (fun n c => n * 10 + ((c.toNat : Int) - 48)) 0
def lnum (d : List UInt8) : Int := if d = [] ∨ 9 < d.length ∨ (1 < d.length ∧ d.head? = some 48) then -1 else if d.all digit then vald d else -1
theorem vald_ge (d : List UInt8) (n : Int) (hn : 0 ≤ n) (h : ∀ c ∈ d, digit c = true) : n ≤ d.foldl (fun n c => n * 10 + ((c.toNat : Int) - 48)) n := by
  induction d generalizing n with
  | nil => exact Int.le_refl _
  | cons c r ih =>
    have hc := h c List.mem_cons_self
    unfold digit at hc
    simp at hc
    have := ih (n * 10 + ((c.toNat : Int) - 48)) (by omega) (fun d hd => h d (List.mem_cons_of_mem _ hd))
    show n ≤ r.foldl _ (n * 10 + ((c.toNat : Int) - 48))
    omega
theorem u8_of {c : UInt8} {n : Nat} (h : c.toNat = n) : c = UInt8.ofNat n := by
  rw [← h]; exact (UInt8.ofNat_toNat).symm
theorem dec_one : ∀ i : Fin 10, Lib.decDigits i.1 = [UInt8.ofNat (48 + i.1)] := by decide +kernel
theorem dec_two : ∀ i : Fin 100, 10 ≤ i.1 → Lib.decDigits i.1 = [UInt8.ofNat (48 + i.1 / 10), UInt8.ofNat (48 + i.1 % 10)] := by decide +kernel
/-- A number up to 24 that is so written is written as its digits. -/
theorem lnum_dec {d : List UInt8} (h0 : 0 ≤ lnum d) (h1 : lnum d ≤ 24) : d = Lib.decDigits (lnum d).toNat := by
  unfold lnum at h0 h1 ⊢
  split at h0
  · omega
  · rename_i hx
    rw [if_neg hx] at h1 ⊢
    split at h0
    · rename_i hd
      rw [if_pos hd] at h1 ⊢
      have hall : ∀ c ∈ d, digit c = true := List.all_eq_true.1 hd
      match d, hx, hall with
      | [], hx, _ => exact absurd (.inl rfl) hx
      | [a], _, hall =>
        have ha := hall a List.mem_cons_self
        unfold digit at ha
        simp at ha
        obtain ⟨n, hn⟩ : ∃ n : Nat, a.toNat = 48 + n ∧ n < 10 := ⟨a.toNat - 48, by omega, by omega⟩
        have e : vald [a] = (n : Int) := by unfold vald; simp; omega
        rw [e, u8_of hn.1]
        exact (dec_one ⟨n, hn.2⟩).symm
      | [a, b], hx, hall =>
        have ha := hall a List.mem_cons_self
        have hb := hall b (by simp)
        unfold digit at ha hb
        simp at ha hb
        have ha0 : a.toNat ≠ 48 := fun e => hx (.inr (.inr ⟨by simp, by rw [u8_of e]; rfl⟩))
        obtain ⟨n, hn⟩ : ∃ n : Nat, a.toNat = 48 + n ∧ n < 10 := ⟨a.toNat - 48, by omega, by omega⟩
        obtain ⟨m, hm⟩ : ∃ n : Nat, b.toNat = 48 + n ∧ n < 10 := ⟨b.toNat - 48, by omega, by omega⟩
        have e : vald [a, b] = ((10 * n + m : Nat) : Int) := by unfold vald; simp; omega
        have e2 := dec_two ⟨10 * n + m, by omega⟩ (by show 10 ≤ 10 * n + m; omega)
        have e3 : (10 * n + m) / 10 = n := by omega
        have e4 : (10 * n + m) % 10 = m := by omega
        rw [e, Int.toNat_natCast, e2, e3, e4, u8_of hn.1, u8_of hm.1]
      | a :: b :: c :: r, hx, hall =>
        exfalso
        have ha := hall a List.mem_cons_self
        have hb := hall b (by simp)
        have hc := hall c (by simp)
        unfold digit at ha hb hc
        simp at ha hb hc
        have ha0 : a.toNat ≠ 48 := fun e => hx (.inr (.inr ⟨by simp, by rw [u8_of e]; rfl⟩))
        have hg := vald_ge r (((0 * 10 + ((a.toNat : Int) - 48)) * 10 + ((b.toNat : Int) - 48)) * 10 + ((c.toNat : Int) - 48)) (by omega) (fun x hx => hall x (by simp [hx]))
        have e : vald (a :: b :: c :: r) = r.foldl (fun n c => n * 10 + ((c.toNat : Int) - 48)) (((0 * 10 + ((a.toNat : Int) - 48)) * 10 + ((b.toNat : Int) - 48)) * 10 + ((c.toNat : Int) - 48)) := rfl
        rw [e] at h1
        omega
    · omega
/-! One pulse. -/
def strip (w : List UInt8) : Bool × List UInt8 := if w.head? = some 45 then (true, w.tail) else (false, w)
/-- The pulse with a text, as the reference reads it. -/
def spw (w : List UInt8) : Option Pu :=
  match (strip w).2 with
  | c :: d => if d = [] ∨ c.toNat < 120 ∨ 122 < c.toNat then none else if 0 ≤ lnum d ∧ lnum d ≤ 24 then some ⟨(c.toNat : Int) - 120, lnum d, (strip w).1⟩ else none
  | [] => none
theorem spw_all : ∀ (a : Fin 3) (h : Fin 25) (b : Bool), spw (puT ⟨(a.1 : Int), (h.1 : Int), b⟩) = some ⟨(a.1 : Int), (h.1 : Int), b⟩ := by decide +kernel
theorem spw_puT {p : Pu} (h : p.ok = true) : spw (puT p) = some p := by
  obtain ⟨ha, k, hk, _, hk2⟩ := ok_parts h
  obtain ⟨a, h', b⟩ := p
  dsimp only at ha hk
  subst hk
  have := spw_all ⟨a.toNat, by omega⟩ ⟨k, by omega⟩ b
  dsimp only at this
  rwa [show ((a.toNat : Nat) : Int) = a by omega] at this
theorem spw_ok {w : List UInt8} {p : Pu} (h : spw w = some p) : p.ok = true ∧ puT p = w := by
  unfold spw at h
  split at h
  · rename_i c d hs
    split at h
    · cases h
    · rename_i hx
      split at h
      · rename_i hr
        cases h
        have hc : 120 ≤ c.toNat ∧ c.toNat ≤ 122 := by
          constructor
          · exact Nat.le_of_not_lt fun h => hx (.inr (.inl h))
          · exact Nat.le_of_not_lt fun h => hx (.inr (.inr h))
        refine ⟨by unfold Pu.ok inB; simp; omega, ?_⟩
        have hd := lnum_dec hr.1 hr.2
        unfold puT
        dsimp only
        rw [← hd]
        have hb : by1 (120 + ((c.toNat : Int) - 120)) = c := by
          unfold by1
          rw [show (120 + ((c.toNat : Int) - 120)) = (c.toNat : Int) by omega, Int.toNat_natCast]
          exact UInt8.ofNat_toNat
        rw [hb]
        unfold strip at hs ⊢
        split
        · rename_i h45
          rw [if_pos h45] at hs
          rw [if_pos rfl]
          cases w with
          | nil => cases h45
          | cons e r =>
            have : e = 45 := by simpa using h45
            subst this
            dsimp only [List.tail] at hs
            rw [hs]; rfl
        · rename_i h45
          rw [if_neg h45] at hs
          simpa using hs.symm
      · cases h
  · cases h
theorem spw_iff {w : List UInt8} {p : Pu} : spw w = some p ↔ p.ok = true ∧ puT p = w :=
  ⟨spw_ok, fun ⟨h1, h2⟩ => by rw [← h2]; exact spw_puT h1⟩
/-! The whole text. -/
def seqOf : List (List UInt8) → Option (List Pu)
  | [] => some []
  | w :: ws => match spw w, seqOf ws with | some p, some ps => some (p :: ps) | _, _ => none
theorem seqOf_length {ws : List (List UInt8)} {ps : List Pu} (h : seqOf ws = some ps) : ps.length = ws.length := by
  induction ws generalizing ps with
  | nil => cases h; rfl
  | cons w ws ih =>
    unfold seqOf at h
    split at h
    · rename_i p qs h1 h2
      cases h
      simp [ih h2]
    · cases h
theorem seqOf_snoc (a : List (List UInt8)) (w : List UInt8) : seqOf (a ++ [w]) = match seqOf a, spw w with | some ps, some p => some (ps ++ [p]) | _, _ => none := by
  induction a with
  | nil =>
    show seqOf [w] = _
    unfold seqOf seqOf
    cases spw w <;> rfl
  | cons x r ih =>
    show seqOf (x :: (r ++ [w])) = _
    unfold seqOf
    rw [ih]
    cases spw x <;> cases seqOf r <;> cases spw w <;> rfl
theorem seqOf_none {a : List (List UInt8)} (b : List (List UInt8)) (h : seqOf a = none) : seqOf (a ++ b) = none := by
  induction a with
  | nil => cases h
  | cons x r ih =>
    show seqOf (x :: (r ++ b)) = none
    unfold seqOf at h ⊢
    cases h1 : spw x with
    | none => rfl
    | some p =>
      cases h2 : seqOf r with
      | none => rw [ih h2]
      | some ps => rw [h1, h2] at h; cases h
def readL (l : List UInt8) : Option (List Pu) := if l = [] then some [] else if 60 < (spl l).length then none else seqOf (spl l)
def prV (l : List UInt8) : List Pu := (readL l).getD []
def prC (l : List UInt8) : Int := if (readL l).isSome then 0 else 6
end Go.Proofs.YtdijnjigamkhjaaGreatDoor
