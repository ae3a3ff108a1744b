/- Walks: words between blanks, handed out one by one. -/
import Derived.RangeFuncNested
import Derived.RangeFuncBound
import Derived.RangeFuncCalls
import Derived.RangeFuncLeaves
import Derived.OwnWalkIn
import Derived.TacticsInMore
import Derived.LoopNIn
import Derived.LoopIn
import Derived.Test.YtdijnjigamkhjaaGreatDoorP
namespace Go.Proofs.YtdijnjigamkhjaaGreatDoor
open Go.RowKit
attribute [local go_sem] Oper.semAt_some

theorem index_cases (l : List UInt8) : Lib.indexByte l 32 = -1 ∧ spl l = [l] ∨ ∃ k : Nat, Lib.indexByte l 32 = (k : Int) ∧ k < l.length ∧ spl l = l.take k :: spl (l.drop (k + 1)) := by
  have hge := Lib.indexByte_ge l 32
  by_cases h : Lib.indexByte l 32 = -1
  · exact .inl ⟨h, spl_none fun k _ => Lib.indexByte_none h k⟩
  · obtain ⟨k, hk⟩ : ∃ k : Nat, Lib.indexByte l 32 = (k : Int) := ⟨(Lib.indexByte l 32).toNat, by omega⟩
    obtain ⟨h1, h2⟩ := Lib.indexByte_some hk
    exact .inr ⟨k, hk, (List.getElem?_eq_some_iff.1 h1).1, spl_at h1 h2⟩
/-- The three boxes of the iterator: what is left of the text, the separator, how much of it is handed out. -/
structure Bx (W : World) (Ss Sp Sv : Nat) (R : ByteArray) : Prop where
  s : W.heap[Ss]? = some (.cells #[.string R] 9 (0, 0))
  p : W.heap[Sp]? = some (.cells #[.string ⟨#[32]⟩] 9 (0, 0))
  v : W.heap[Sv]? = some (.cells #[.int .i64 0] 3 (0, 0))
theorem one_cell {w : World} {P : Nat} {v : Value} {t : TypeId} (h : w.heap[P]? = some (.cells #[v] t (0, 0))) : w.cell? ⟨P, 0, none⟩ = some v ∧ w.frozen? ⟨P, 0, none⟩ = false := by
  simp [World.cell?, World.frozen?, h]
theorem one_set {w : World} {P : Nat} {v : Value} {t : TypeId} (u : Value) (h : w.heap[P]? = some (.cells #[v] t (0, 0))) : (w.setCell ⟨P, 0, none⟩ u).heap[P]? = some (.cells #[u] t (0, 0)) := by
  simp [World.setCell, Array.getElem?_modify, h]
section
variable {W W' : World} {Ss Sp Sv : Nat} {R : ByteArray}
theorem Bx.keep (b : Bx W Ss Sp Sv R) (h : ∀ k, Ss ≤ k → k ≤ Ss + 2 → W'.heap[k]? = W.heap[k]?) (h1 : Sp = Ss + 1 ∨ Sp = Ss) (hp : Ss ≤ Sp ∧ Sp ≤ Ss + 2) (hv : Ss ≤ Sv ∧ Sv ≤ Ss + 2) : Bx W' Ss Sp Sv R :=
  ⟨(h _ (Nat.le_refl _) (by omega)).trans b.s, (h _ hp.1 hp.2).trans b.p, (h _ hv.1 hv.2).trans b.v⟩
end
/-- What is between two words. -/
structure It (x : List UInt8) (S : Nat) (J : List (List UInt8) → World → Prop) (pre : List (List UInt8)) (rest : List UInt8) (W : World) : Prop where
  bx : Bx W S (S + 1) (S + 2) ⟨rest.toArray⟩
  eq : spl x = pre ++ spl rest
  le : rest.length ≤ x.length
  j : J pre W
/-- How long the text is that is left. -/
def leftOf (S : Nat) (W : World) : Nat := match W.cell? ⟨S, 0, none⟩ with | some (.string b) => b.size | _ => 0
theorem leftOf_eq {S : Nat} {W : World} {R : ByteArray} (h : W.cell? ⟨S, 0, none⟩ = some (.string R)) : leftOf S W = R.size := by
  unfold leftOf; rw [h]
set_option maxRecDepth 100000 in
set_option maxHeartbeats 2000000 in
theorem split_in (n : Nat) (l S : Nat) (x : List UInt8) (hx : x.length ≤ 1099511627776) (J : List (List UInt8) → World → Prop) (Jx : World → Prop)
    (hJs : ∀ pre W v, J pre W → J pre (W.setCell ⟨S, 0, none⟩ v))
    (hY : ∀ pre y W1, pre ++ [y] <+: spl x → J pre W1 → YieldAt Fence.wide (n - 1) Tryz.prog l #[.string ⟨y.toArray⟩] W1 fun e W' =>
      (e = .returned (.bool true) ∧ J (pre ++ [y]) W' ∧ ∀ k, S ≤ k → k ≤ S + 2 → W'.heap[k]? = W1.heap[k]?) ∨ (e = .returned (.bool false) ∧ Jx W'))
    (W : World) (hb : Bx W S (S + 1) (S + 2) ⟨x.toArray⟩) (h0 : J [] W) :
    CallsIn Fence.wide n Tryz.prog 82 #[.func (.yield l) #[] #[], .pointer (some ⟨S + 1, 0, none⟩), .pointer (some ⟨S, 0, none⟩), .pointer (some ⟨S + 2, 0, none⟩)] W fun e W' => (∃ v, e = .returned v) ∧ (J (spl x) W' ∨ Jx W') := by
  have HY := Lib.hid hY; clear hY
  have HJ := Lib.hid hJs; clear hJs
  have I0 : It x S J [] x W := ⟨hb, rfl, Nat.le_refl _, h0⟩
  have c1 := (one_cell hb.p).1
  have hsep : (⟨#[32]⟩ : ByteArray).size = 1 := rfl
  clear hb h0
  refine callsIn_of_wp Tryz.func82 rfl trivial ?_ rfl
  simp only [Tryz.ntmps82, List.size_toArray, List.length_cons, List.length_nil, Nat.reduceAdd, Nat.reduceSub, Array.replicate_succ, Array.replicate_zero, List.push_toArray, List.append_toArray, List.nil_append, List.cons_append]
  gi_wp2
  clear c1
  gi_loopw [] (fun wr => ∃ (pre : List (List UInt8)) (rest : List UInt8), It x S J pre rest wr) (fun wr => leftOf S wr)
  case atStart =>
    exact ⟨[], x, I0⟩
  case round =>
    obtain ⟨pre, rest, hI⟩ := hrel
    obtain ⟨c0, f0⟩ := one_cell hI.bx.s
    obtain ⟨c1, f1⟩ := one_cell hI.bx.p
    obtain ⟨c2, f2⟩ := one_cell hI.bx.v
    have hle := hI.le
    have hsz := size_list rest
    have hJ := hI.j
    have heq := hI.eq
    have HB := Lib.hid hI.bx
    clear hI I0
    have hKI : ∀ W, Calls Tryz.prog 84 #[.string ⟨rest.toArray⟩, .string ⟨#[32]⟩] W fun e w' => e = .returned (.int .i64 (Lib.indexByte rest 32)) ∧ w' = W := fun W => Tryz.strings_Index_one ⟨rest.toArray⟩ 32 W
    rcases index_cases rest with ⟨hi, hsp⟩ | ⟨k, hi, hk, hsp⟩
    · rw [hi] at hKI
      rw [hsp] at heq
      have KI := Lib.hid hKI
      obtain ⟨fn, tmps, assign, body, hy, hR⟩ := HY.out pre rest wr (by rw [heq]; exact List.prefix_refl _) hJ
      rw [← heq] at hR
      have HR := Lib.hid hR
      clear hR hKI hi HY HJ
      generalize (⟨rest.toArray⟩ : ByteArray) = R at *
      gi_wp2_with (refine ⟨trivial, (fun h => by cases h), ?_⟩; gi_at_call 84; refine (callsIn_wide.2 (KI.out _)).mono ?_; rintro e w' ⟨rfl, rfl⟩)
      refine ⟨(fun h => by cases h), HR.out.mono ?_⟩
      rintro e W' (⟨rfl, hJ', _⟩ | ⟨rfl, hJx⟩)
      · gi_wp2
        go_end0
        exact ⟨⟨_, rfl⟩, .inl hJ'⟩
      · gi_wp2
        go_end0
        exact ⟨⟨_, rfl⟩, .inr hJx⟩
    · rw [hi] at hKI
      rw [hsp] at heq
      have KI := Lib.hid hKI
      obtain ⟨fn, tmps, assign, body, hy, hR⟩ := HY.out pre (rest.take k) wr (by rw [heq]; exact ⟨spl (rest.drop (k + 1)), by simp⟩) hJ
      have HR := Lib.hid hR
      have hhi := fun W => sl_high (l := rest) (j := k) (by omega) W
      have hlo : ∀ W : World, (Instr.slice 9 (.string ⟨rest.toArray⟩) (some (.int .i64 ((k : Int) + 1))) none none).run Tryz.prog W = .ok (.string ⟨(rest.drop (k + 1)).toArray⟩) W := fun W => by
        have := sl_low (l := rest) (i := k + 1) (by omega) W
        simpa only [Int.natCast_add, Int.natCast_one] using this
      have hkb : (k : Int) < 2199023255552 := by omega
      have hk0 : (0 : Int) ≤ (k : Int) := by omega
      have hm : leftOf S wr = rest.length := by rw [leftOf_eq c0, hsz]
      have HM := Lib.hid hm
      obtain ⟨D, hD⟩ : ∃ D, (⟨(rest.drop (k + 1)).toArray⟩ : ByteArray) = D := ⟨_, rfl⟩
      have HD := Lib.hid hD
      rw [hD] at hlo
      have HQ := Lib.hid (show spl x = (pre ++ [rest.take k]) ++ spl (rest.drop (k + 1)) by rw [heq]; simp)
      have HL := Lib.hid (show (rest.drop (k + 1)).length ≤ x.length ∧ (rest.drop (k + 1)).length < rest.length by simp; omega)
      have hw1 : IntKind.i64.wrap ((k : Int) + 0) = (k : Int) := by rw [Int.add_zero]; exact i64_in _ (by omega) (by omega)
      have hw2 : IntKind.i64.wrap ((k : Int) + 1) = (k : Int) + 1 := i64_in _ (by omega) (by omega)
      clear hR hKI hi HY hm hD hsp heq hJ hk
      generalize (⟨(rest.take k).toArray⟩ : ByteArray) = T at *
      generalize (⟨rest.toArray⟩ : ByteArray) = R at *
      obtain ⟨kk, hkk⟩ : ∃ kk, (k : Int) = kk := ⟨_, rfl⟩
      rw [hkk] at hkb hk0 hw1 hw2
      simp only [hkk] at hhi hlo KI
      clear hkk
      gi_wp2_with (refine ⟨trivial, (fun h => by cases h), ?_⟩; gi_at_call 84; refine (callsIn_wide.2 (KI.out _)).mono ?_; rintro e w' ⟨rfl, rfl⟩)
      refine ⟨(fun h => by cases h), HR.out.mono ?_⟩
      rintro e W' (⟨rfl, hJ', hK⟩ | ⟨rfl, hJx⟩)
      · have b' : Bx W' S (S + 1) (S + 2) R := HB.out.keep hK (.inl rfl) (by omega) (by omega)
        obtain ⟨g0, e0⟩ := one_cell b'.s
        obtain ⟨g1, e1⟩ := one_cell b'.p
        obtain ⟨g2, e2⟩ := one_cell b'.v
        gi_wp2
        have hb2 := one_set (.string D) b'.s
        go_roundw
        case rel =>
          exact ⟨pre ++ [rest.take k], rest.drop (k + 1), ⟨by rw [HD.out]; exact hb2, (Below.heap_setCell _ _ _ _ (by simp)).trans b'.p, (Below.heap_setCell _ _ _ _ (by simp)).trans b'.v⟩, HQ.out, HL.out.1, HJ.out _ _ _ hJ'⟩
        case measure =>
          rw [HM.out, leftOf_eq (one_cell hb2).1, ← HD.out, size_list]
          exact HL.out.2
      · gi_wp2
        refine bodyPost_ret (results_none rfl _ _ _) rfl ?_
        exact ⟨⟨_, rfl⟩, .inr hJx⟩
end Go.Proofs.YtdijnjigamkhjaaGreatDoor
