/- Walks: draws of one of some numbers; the source of a code. -/
import Derived.Test.YtdijnjigamkhjaaGreatDoorDa
namespace Go.Proofs.YtdijnjigamkhjaaGreatDoor
open Go.RowKit

theorem grown_trans {a b c : World} {D : Nat} (h : a.grownBy b (some D)) (k : b.grownBy c (some D)) : a.grownBy c (some D) :=
  ⟨k.os.trans h.os, k.tape.trans h.tape, k.output.trans h.output, Nat.le_trans h.size k.size, fun i hi hne => (k.block i (Nat.lt_of_lt_of_le hi h.size) hne).trans (h.block i hi hne)⟩
theorem grown_alloc {a b : World} {D : Nat} (h : a.grownBy b (some D)) (o : Obj) : a.grownBy (b.alloc o) (some D) := grown_trans h (World.grownBy_alloc b o _)
theorem Src.alloc {w : World} {D : Nat} {A : Option Addr} {n c at_ h : Nat} (x : Src w D A n c at_ h) (o : Obj) : Src (w.alloc o) D A n c at_ h :=
  ⟨(Below.heap_alloc _ _ _ x.lt).trans x.s, fun k hk => by
    obtain ⟨b, off, y, e, hb, hc, h0, h1⟩ := x.code k hk
    exact ⟨b, off, y, e, by simp; omega, ((Below.refl w.heap.size w).alloc (Nat.le_refl _) o).cell (p := ⟨b, off + k, none⟩) hb |>.trans hc, h0, h1⟩, x.hat, x.hh, x.hn⟩
/-- The call draws a number of which S speaks. -/
def DrawsI (S : Int → Prop) (w : World) (D : Nat) (A : Option Addr) (n c : Nat) (e : Ending) (w' : World) : Prop := ∃ x at' h', e = .returned (.int .i64 x) ∧ S x ∧ Src w' D A n c at' h' ∧ w.grownBy w' (some D)
theorem next_draws (D : Nat) (A : Option Addr) (n c at_ h : Nat) (m : Int) (w : World) (h1 : 1 ≤ m) (h2 : m ≤ 1099511627776) (hS : Src w D A n c at_ h) :
    Calls Tryz.prog 43 #[.pointer (some ⟨D, 0, none⟩), .int .i64 m] w (DrawsI (fun x => 0 ≤ x ∧ x < m) w D A n c) := by
  refine (l01Next_any D A n c at_ h m w h1 h2 hS).mono ?_
  rintro e w' ⟨x, at', rfl, x0, x1, hs, _, _, _, hg⟩
  exact ⟨x, at', _, rfl, ⟨x0, x1⟩, hs, hg⟩
set_option maxHeartbeats 1000000 in
theorem pick_draws (D : Nat) (A : Option Addr) (n c at_ h : Nat) (P cp : Nat) (vals : List Int) (w : World) (h1 : 1 ≤ vals.length) (h2 : vals.length ≤ 1000) (hPD : P ≠ D) (hP : P < w.heap.size)
    (hc : ∀ k v, vals[k]? = some v → w.cell? ⟨P, k, none⟩ = some (.int .i64 v)) (hS : Src w D A n c at_ h) :
    Calls Tryz.prog 46 #[.pointer (some ⟨D, 0, none⟩), .slice (some ⟨P, 0, none⟩) vals.length cp] w (DrawsI (fun x => x ∈ vals) w D A n c) := by
  have K := Lib.hid (next_draws D A n c at_ h (vals.length : Int) w (by omega) (by omega) hS)
  have HC := Lib.hid hc
  clear hS hc
  unfold DrawsI at *
  go_enter Tryz.func46, Tryz.ntmps46
  go_wp2_with fail
  refine K.out.mono ?_
  rintro e w1 ⟨x, at', h', rfl, ⟨x0, x1⟩, hs, hg⟩
  obtain ⟨k, rfl⟩ : ∃ k : Nat, x = (k : Int) := ⟨x.toNat, by omega⟩
  obtain ⟨v, hv⟩ : ∃ v, vals[k]? = some v := ⟨_, List.getElem?_eq_getElem (by omega)⟩
  have c0 : w1.cell? ⟨P, k, none⟩ = some (.int .i64 v) := (World.cell?_of_block (hg.block P hP (by simpa using hPD))).trans (HC.out k v hv)
  have HS := Lib.hid hs
  have HG := Lib.hid hg
  clear hs hg
  go_wp2
  go_ret
  exact ⟨_, _, _, rfl, List.mem_of_getElem? hv, HS.out, HG.out⟩
end Go.Proofs.YtdijnjigamkhjaaGreatDoor
