/- The cross product, the reference's side, joined. -/
import Derived.Test.YtkfahacnanlnfaaCc
namespace Go.Proofs.Ytkfahacnanlnfaa
open Go.RowKit Ieee

def pv (a b c d : Nat) : Nat := op32 .sub (op32 .mul a b) (op32 .mul c d)
def pOk (a b c d : Nat) : Bool := fin32 (op32 .mul a b) && fin32 (op32 .mul c d) && fin32 (pv a b c d)
theorem part_spec {a b c d r : Nat} (h : PartOf a b c d r) : (pOk a b c d = true → r = pv a b c d ∧ fin32 r = true) ∧ (pOk a b c d = false → fin32 r = false) := by
  obtain ⟨w, rfl⟩ := h
  unfold pOk pv
  cases f0 : fin32 (op32 .mul a b) with
  | false => exact ⟨nofun, fun _ => opV_bad _ _ (.inr rfl) (.inl f0)⟩
  | true =>
  cases f1 : fin32 (op32 .mul c d) with
  | false => exact ⟨nofun, fun _ => opV_bad _ _ (.inr rfl) (.inr f1)⟩
  | true =>
  rw [opV_good .sub w rfl f0 f1]
  cases f2 : fin32 (op32 .sub (op32 .mul a b) (op32 .mul c d)) with
  | false => exact ⟨nofun, fun _ => rfl⟩
  | true => exact ⟨fun _ => ⟨rfl, rfl⟩, nofun⟩
def crOk (a b c a' b' c' : Nat) : Bool := pOk b c' c b' && (pOk c a' a c' && pOk a b' b a')
def crCode (a b c a' b' c' : Nat) : Int := if finV a b c && finV a' b' c' then (if crOk a b c a' b' c' then 0 else 3) else 1
def crVal (a b c a' b' c' x : Nat) : Nat := if finV a b c && finV a' b' c' then (if crOk a b c a' b' c' then cz x else 0) else 0
theorem cross_spec {a b c a' b' c' r s t : Nat} (hr : PartOf b c' c b' r) (hs : PartOf c a' a c' s) (ht : PartOf a b' b a' t) :
    finV r s t = crOk a b c a' b' c' ∧ (crOk a b c a' b' c' = true → r = pv b c' c b' ∧ s = pv c a' a c' ∧ t = pv a b' b a') := by
  have e0 : finV r s t = (fin32 r && (fin32 s && fin32 t)) := by simp [finV]
  obtain ⟨r1, r2⟩ := part_spec hr
  obtain ⟨s1, s2⟩ := part_spec hs
  obtain ⟨t1, t2⟩ := part_spec ht
  rw [e0]
  unfold crOk
  cases fr : pOk b c' c b' with
  | false => rw [r2 fr]; exact ⟨rfl, nofun⟩
  | true =>
  rw [(r1 fr).2]
  cases fs : pOk c a' a c' with
  | false => rw [s2 fs]; exact ⟨rfl, nofun⟩
  | true =>
  rw [(s1 fs).2]
  cases ft : pOk a b' b a' with
  | false => rw [t2 ft]; exact ⟨rfl, nofun⟩
  | true =>
  rw [(t1 ft).2]
  exact ⟨rfl, fun _ => ⟨(r1 fr).1, (s1 fs).1, (t1 ft).1⟩⟩
/-- The call hands back the vector (x, y, z) with the code k. -/
def TellsV (x y z : Nat) (k : Int) (w : World) (e : Ending) (w' : World) : Prop := e = .returned (.tuple #[vec x y z, .int .i64 k]) ∧ Below w.heap.size w w'
/-- Both ways of the reference's inner function at once. -/
theorem specCross1_any (a b c a' b' c' : Nat) (w : World) : Calls Try.prog 36 #[vec a b c, vec a' b' c'] w fun e w' =>
    ∃ x y z, e = .returned (.tuple #[.agg #[.float .f32 x, .float .f32 y, .float .f32 z], .int .i64 (crCode a b c a' b' c')]) ∧ Below w.heap.size w w' ∧
    cz x = crVal a b c a' b' c' (pv b c' c b') ∧ cz y = crVal a b c a' b' c' (pv c a' a c') ∧ cz z = crVal a b c a' b' c' (pv a b' b a') := by
  unfold crCode crVal
  cases f : (finV a b c && finV a' b' c') with
  | false =>
    refine (specCross1_no a b c a' b' c' w f).mono fun e w' ⟨he, hb⟩ => ⟨0, 0, 0, he, hb, cz_zero, cz_zero, cz_zero⟩
  | true =>
    have f0 : finV a b c = true := by revert f; cases finV a b c <;> simp
    have f1 : finV a' b' c' = true := by revert f; cases finV a' b' c' <;> simp
    refine (specCross1_yes a b c a' b' c' w f0 f1).mono fun e w' ⟨r, s, t, he, hb, hr, hs, ht⟩ => ?_
    obtain ⟨g1, g2⟩ := cross_spec hr hs ht
    rw [g1] at he
    cases ho : crOk a b c a' b' c' with
    | true =>
      obtain ⟨rfl, rfl, rfl⟩ := g2 ho
      rw [ho] at he
      exact ⟨_, _, _, he, hb, rfl, rfl, rfl⟩
    | false =>
      rw [ho] at he
      exact ⟨_, _, _, he, hb, cz_zero, cz_zero, cz_zero⟩
end Go.Proofs.Ytkfahacnanlnfaa
