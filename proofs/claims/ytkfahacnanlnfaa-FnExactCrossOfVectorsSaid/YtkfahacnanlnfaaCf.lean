/- The cross product, the implementation's side: telling and comparing. -/
import Derived.Test.YtkfahacnanlnfaaCe
namespace Go.Proofs.Ytkfahacnanlnfaa
open Go.RowKit Ieee

theorem toldV_any (B : Nat) (c : Int) (x y z : Nat) (w : World) (h : CalcAt w B c) : Calls Try.prog 39 #[.pointer (some ⟨B, 0, none⟩), vec x y z] w (TellsV (if c = 0 then x else 0) (if c = 0 then y else 0) (if c = 0 then z else 0) c w) := by
  obtain ⟨X, Y, b0⟩ := boxes w x y z 0 0 0
  have hc := (h.below b0 h.lt).cell
  have hB := h.lt
  have HW := Lib.hid (fun (w' : World) (hb : Below w.heap.size w w') => (h.below hb h.lt).cell)
  obtain ⟨c0, c1, c2⟩ := X.cells
  obtain ⟨e0, e1, e2⟩ := Y.cells
  have g0 := Y.frozen 0
  have g1 := Y.frozen 1
  have g2 := Y.frozen 2
  have Y1 := Lib.hid Y
  have B1 := Lib.hid b0
  clear X Y b0 h
  unfold TellsV vec
  by_cases h0 : c = 0
  · subst h0
    simp only [if_true]
    go_enter Try.func39, Try.ntmps39
    go_wp2_with fail
    refine bodyPost_ret (v := .tuple #[.agg #[.float .f32 x, .float .f32 y, .float .f32 z], .int .i64 0]) (by simp [results, Try.results39, go_sem]) rfl ?_
    exact ⟨rfl, ((Below.refl _ _).alloc (Nat.le_refl _) _).alloc (by simp) _⟩
  · simp only [if_neg h0]
    have hb : (c != 0) = true := by simpa using h0
    go_enter Try.func39, Try.ntmps39
    go_wp2_with fail
    obtain ⟨w1, hw1, X, Y, Z, b1⟩ := boxes3 w x y z 0 0 0
    rw [← hw1]
    clear hw1 c0 c1 c2 e0 e1 e2 g0 g1 g2 Y1 B1
    obtain ⟨T, hT⟩ : ∃ T, w.heap.size + 1 + 1 = T := ⟨_, rfl⟩
    rw [hT] at Z ⊢
    have hT1 : w.heap.size + 1 ≠ T := by omega
    have hT2 : T ≠ w.heap.size + 1 := by omega
    have hT3 : w.heap.size + 1 ≠ B := by omega
    have hT4 : B ≠ w.heap.size + 1 := by omega
    have hcw : w1.cell? ⟨B, 0, none⟩ = some (.int .i64 c) := HW.out w1 b1
    obtain ⟨c0, c1, c2⟩ := Z.cells
    obtain ⟨e0, e1, e2⟩ := Y.cells
    have g0 := Y.frozen 0
    have g1 := Y.frozen 1
    have g2 := Y.frozen 2
    have B1 := Lib.hid b1
    clear hc hT X Y Z b1
    go_region_held3 (fun w' => w'.cell? ⟨B, 0, none⟩ = some (.int .i64 c) ∧ w'.cell? ⟨T, 0, none⟩ = some (.float .f32 0) ∧ w'.cell? ⟨T, 1, none⟩ = some (.float .f32 0) ∧ w'.cell? ⟨T, 2, none⟩ = some (.float .f32 0)) (go_keep) (fail)
    all_goals
      go_wp2
      refine bodyPost_ret (v := .tuple #[.agg #[.float .f32 0, .float .f32 0, .float .f32 0], .int .i64 c]) (by simp [results, Try.results39, go_sem, e0, e1, e2]) rfl ?_
      exact ⟨rfl, (below_set3 B1.out (Nat.le_succ _) _ _ _).drew⟩
end Go.Proofs.Ytkfahacnanlnfaa
