/- An argument that is a list of pulses, opened. -/
import Derived.Test.YtphcipcdddfdeaaDoorC
import Derived.Test.YtphcipcdddfdeaaDoorRows
import Derived.ProofKit
import Derived.OpenShut
import Derived.ShutString
import Derived.ChangeOld
import Derived.Deep.Slices
import Derived.Deep.Fields
import Derived.ChangeSame
namespace Go.Proofs.YtphcipcdddfdeaaDoor
open Go.ChangeShapes Go.WideShapes Go.ChangeAt Go.RowKit Go.Deep

theorem own : ownKnob Tryd.prog.godebug = none := by kernel_rfl
theorem laidOut : laidOutB Tryd.prog = true := by kernel_rfl

section
variable {H : Type} {enc : TypeId × Value → H} {P : Program} {w : World} {base : Nat} {spare : Nat → Bool} {held : Bool}
theorem open_slice_fields {t e : TypeId} {fs : Array Field} {fuel : Nat} {cs : List Value} {x : DataW H × List MemPlace} (ht : P.underlying t = some (.slice e)) (he : P.underlying e = some (.struct fs))
    (hone : oneCellFields P fs = true) (hC : P.cellsOf e = fs.size) (h : DataW.trod enc P w base spare held fuel t cs = some x) :
    (cs = [.slice none 0 0] ∧ x = (.nil, [])) ∨
    ∃ (a : Addr) (len cap m : Nat) (D : Nat → DataW H) (Pl : Nat → List MemPlace), cs = [.slice (some a) len cap] ∧ base ≤ a.block ∧ len ≤ cap ∧ cap ≤ maxLen ∧ m = (if spare a.block then cap else len) ∧
      x = (.slice ((List.range len).map D) ((List.range (m - len)).map fun j => D (len + j)), MemPlace.row a (m * fs.size) ++ (List.range m).flatMap Pl) ∧
      ∀ i, i < m → ∃ (ys : List (DataW H × List MemPlace)) (n : Nat), D i = .agg (ys.map (·.1)) ∧ Pl i = ys.flatMap (·.2) ∧ ys.length = fs.size ∧
        ∀ (j : Nat) (f : Field), fs[j]? = some f → ∃ (v : Value) (y : DataW H × List MemPlace), w.cell? (a.add (i * fs.size + j)) = some v ∧ ys[j]? = some y ∧ DataW.trod enc P w base spare held n f.type [v] = some y := by
  rcases open_slice ht h with h0 | ⟨a, len, cap, m, n, D, Pl, hcs, hb, hl, hm, hmm, hx, hi⟩
  · exact .inl h0
  · refine .inr ⟨a, len, cap, m, D, Pl, hcs, hb, hl, hm, hmm, by rw [hC] at hx; exact hx, fun i him => ?_⟩
    obtain ⟨cs', hc, ht'⟩ := hi i him
    rw [hC] at hc
    obtain ⟨ys, n', hn', hy, hlen, hyl, hf⟩ := DataW.trod_struct he ht'
    obtain ⟨_, hcl, hat⟩ := World.cells?_some hc
    simp only [Prod.mk.injEq] at hy
    refine ⟨ys, n', hy.1, hy.2, hyl, fun j f hj => ?_⟩
    obtain ⟨ho, hk⟩ := hone_of hone j f hj
    have hjl : j < fs.size := (Array.getElem?_eq_some_iff.1 hj).1
    have hcell := hat j hjl
    have hv : cs'[j]? = some (cs'[j]'(by omega)) := List.getElem?_eq_getElem (by omega)
    have h1 := hf j f hj
    rw [ho, hk] at h1
    have hone' : (cs'.drop j).take 1 = [cs'[j]'(by omega)] := by
      rw [List.drop_eq_getElem_cons (by omega)]
      rfl
    rw [hone'] at h1
    have hys : ys[j]? = some (ys[j]'(by omega)) := List.getElem?_eq_getElem (by omega)
    refine ⟨_, _, ?_, hys, h1.trans hys⟩
    rw [← Go.Deep.add_add, hcell, hv]
end

theorem addr_add (b o j : Nat) : (⟨b, o, none⟩ : Addr).add j = ⟨b, o + j, none⟩ := by unfold Addr.add; split <;> simp_all

set_option maxRecDepth 100000 in
/-- What an argument of the type []laws.Pulse is. -/
theorem pulses_in {H : Type} {enc : TypeId × Value → H} {W : World} {v : Value} {d : DataW H} {p : List MemPlace} {base : Nat}
    (hv : Value.okWide Tryd.prog W .any base 22 v) (h : DataW.Trod enc Tryd.prog W 0 (fun _ => true) true 22 v d p) :
    ∃ A c xs, v = .slice A xs.length c ∧ xs.length ≤ maxLen ∧ Rd W A xs := by
  obtain ⟨a0, len0, cap0, rfl⟩ := okWide_slice Tryd.underlying22 hv
  obtain ⟨fuel, hf⟩ := h
  rcases open_slice_fields Tryd.underlying22 Tryd.underlying39 (by kernel_rfl) (by kernel_rfl) hf with ⟨hcs, _⟩ | ⟨a, len, cap, m, D, Pl, hcs, _, hl, hm, hmm, hxx, hi⟩
  · simp [Value.cells] at hcs
    obtain ⟨rfl, rfl, rfl⟩ := hcs
    exact ⟨none, 0, [], rfl, Nat.zero_le _, fun k p h => by simp at h⟩
  · simp [Value.cells] at hcs
    obtain ⟨rfl, rfl, rfl⟩ := hcs
    have hml : len0 ≤ m := by rw [hmm]; split <;> omega
    have key : ∀ i, i < len0 → ∃ q : Pu, W.cell? (a.add (i * 3 + 0)) = some (.int .i64 q.a) ∧ W.cell? (a.add (i * 3 + 1)) = some (.int .i64 q.h) ∧ W.cell? (a.add (i * 3 + 2)) = some (.bool q.b) := by
      intro i hlt
      obtain ⟨ys, n, _, _, _, hfi⟩ := hi i (by omega)
      obtain ⟨v0, y0, hc0, _, ht0⟩ := hfi 0 _ rfl
      obtain ⟨v1, y1, hc1, _, ht1⟩ := hfi 1 _ rfl
      obtain ⟨v2, y2, hc2, _, ht2⟩ := hfi 2 _ rfl
      obtain ⟨n0, e0, _, _⟩ := DataW.trod_int Tryd.underlying2 ht0
      obtain ⟨n1, e1, _, _⟩ := DataW.trod_int Tryd.underlying2 ht1
      obtain ⟨n2, e2, _⟩ := DataW.trod_bool Tryd.underlying4 ht2
      simp at e0 e1 e2
      subst e0 e1 e2
      exact ⟨⟨n0, n1, n2⟩, hc0, hc1, hc2⟩
    have hspot : 0 < len0 → a.spot = none := by
      intro h0
      obtain ⟨q, h, _⟩ := key 0 h0
      simpa [Addr.add] using World.cell?_spot h
    obtain ⟨xs, hxl, hx⟩ : ∃ xs : List Pu, xs.length = len0 ∧ ∀ k q, xs[k]? = some q → W.cell? (a.add (k * 3 + 0)) = some (.int .i64 q.a) ∧ W.cell? (a.add (k * 3 + 1)) = some (.int .i64 q.h) ∧ W.cell? (a.add (k * 3 + 2)) = some (.bool q.b) := by
      clear hspot hi hf hmm hml hl hm hv hxx
      induction len0 with
      | zero => exact ⟨[], rfl, fun k q h => by simp at h⟩
      | succ n ih =>
        obtain ⟨xs, hl, hx⟩ := ih (fun i h => key i (by omega))
        obtain ⟨q, hq⟩ := key n (by omega)
        refine ⟨xs ++ [q], by simp [hl], fun k r h => ?_⟩
        rw [List.getElem?_append] at h
        split at h
        · exact hx k r h
        · rename_i hk
          have hk' : k = n := by
            rcases Nat.lt_or_ge (k - xs.length) 1 with h1 | h1
            · omega
            · rw [List.getElem?_eq_none (by simpa using h1)] at h; cases h
          subst hk'
          simp [hl] at h
          subst h
          exact hq
    refine ⟨some a, cap0, xs, by rw [hxl], by omega, fun k q hk => ?_⟩
    have hk' := Row.k_lt hk
    obtain ⟨b, off, spot⟩ := a
    have hs := hspot (by omega)
    simp only at hs
    subst hs
    obtain ⟨c0, c1, c2⟩ := hx k q hk
    rw [addr_add] at c0 c1 c2
    refine ⟨b, off, rfl, World.block_lt_of_cell? W _ c0, by simpa using c0, ?_, ?_⟩
    · rw [Nat.add_assoc]; exact c1
    · rw [Nat.add_assoc]; exact c2
end Go.Proofs.YtphcipcdddfdeaaDoor
