/- Texts of pulses: the reference's decimal numbers. -/
import Derived.Test.YtdijnjigamkhjaaGreatDoorC
import Derived.Laws.BytesString
import Derived.Laws.IdiomStrings
import Derived.Laws.Concat
import Derived.Test.YtdijnjigamkhjaaGreatDoorShelf
import Derived.Deep.RegionWith
namespace Go.Proofs.YtdijnjigamkhjaaGreatDoor
open Go.RowKit

def by1 (n : Int) : UInt8 := UInt8.ofNat n.toNat
theorem by1_toNat {n : Int} (h0 : 0 ≤ n) (h1 : n < 256) : ((by1 n).toNat : Int) = n := by
  unfold by1
  simp
  omega
/-- The string with these bytes. -/
def str (l : List UInt8) : Value := .string ⟨l.toArray⟩
theorem str_add (a b : List UInt8) : (⟨a.toArray⟩ : ByteArray) ++ ⟨b.toArray⟩ = ⟨(a ++ b).toArray⟩ := by rw [ByteArray.mk_append_mk]
theorem conv_one (W : World) (b c : Nat) (x : Int) (h0 : 0 ≤ x) (h1 : x < 256) (h : W.cell? ⟨b, 0, none⟩ = some (.int .u8 x)) :
    (convert 22 9 (.slice (some ⟨b, 0, none⟩) 1 c)).run Tryz.prog W = .ok (.string ⟨#[by1 x]⟩) W := by
  have e := run_convert_bytes_back (P := Tryz.prog) W 22 9 5 ⟨b, 0, none⟩ c [by1 x] Tryz.underlying22 Tryz.underlying5 Tryz.underlying9 (by
    intro j hj
    have : j = 0 := by simpa using hj
    subst this
    simp only [List.getElem_cons_zero, by1_toNat h0 h1]
    exact h)
  exact e
theorem add_str (W : World) (a b : List UInt8) (h : a.length + b.length ≤ 9223372036854775807) : (Op.stringOp .add ⟨a.toArray⟩ ⟨b.toArray⟩).run Tryz.prog W = .ok (.string ⟨(a ++ b).toArray⟩) W := by
  rw [run_string_add_sum W _ _ (by simpa [ByteArray.size] using h), str_add]

/-- The decimal digits of a number from 0 to 99. -/
def decL (n : Int) : List UInt8 := if n < 10 then [by1 (48 + n)] else [by1 (48 + n / 10), by1 (48 + n % 10)]

set_option maxHeartbeats 400000 in
theorem l01Dec_one (n : Int) (w : World) (h0 : 0 ≤ n) (h1 : n < 10) : Calls Tryz.prog 52 #[.int .i64 n] w fun e w' => e = .returned (.string ⟨#[by1 (48 + n)]⟩) ∧ Below w.heap.size w w' := by
  have kc := fun (W : World) (b c : Nat) (h : W.cell? ⟨b, 0, none⟩ = some (.int .u8 (48 + n))) => conv_one W b c (48 + n) (by omega) (by omega) h
  go_enter Tryz.func52, Tryz.ntmps52
  go_wp2
  go_ret
  exact ⟨rfl, (Below.refl _ _).alloc (Nat.le_refl _) _⟩

theorem cell_first (w : World) (v : Value) (t : TypeId) : (w.alloc (.cells #[v] t)).cell? ⟨w.heap.size, 0, none⟩ = some v := by simp
theorem size_first (w : World) (o : Obj) : w.heap.size < (w.alloc o).heap.size := by simp
theorem i64_in (x : Int) (h0 : -9223372036854775808 ≤ x) (h1 : x ≤ 9223372036854775807) : IntKind.i64.wrap x = x := by rw [IntKind.wrap_i64]; omega
theorem u8_in (x : Int) (h0 : 0 ≤ x) (h1 : x < 256) : IntKind.u8.wrap x = x := by
  have e : IntKind.u8.wrap x = x % 256 := by rfl
  rw [e]; omega
set_option maxRecDepth 100000 in
set_option maxHeartbeats 1000000 in
theorem l01Dec_two (n : Int) (w : World) (h0 : 10 ≤ n) (h1 : n < 100) : Calls Tryz.prog 52 #[.int .i64 n] w fun e w' => e = .returned (.string ⟨#[by1 (48 + n / 10), by1 (48 + n % 10)]⟩) ∧ Below w.heap.size w w' := by
  obtain ⟨q, hq⟩ : ∃ q, n.tdiv 10 = q := ⟨_, rfl⟩
  obtain ⟨r, hr⟩ : ∃ r, n.tmod 10 = r := ⟨_, rfl⟩
  have eq : n / 10 = q := by rw [← hq, Int.tdiv_eq_ediv_of_nonneg (by omega)]
  have er : n % 10 = r := by rw [← hr, Int.tmod_eq_emod_of_nonneg (by omega)]
  have hd0 : 0 ≤ q := by omega
  have hd1 : q < 10 := by omega
  have hm0 : 0 ≤ r := by omega
  have hm1 : r < 10 := by omega
  rw [eq, er]
  clear eq er
  have kc := fun (W : World) (b c : Nat) (h : W.cell? ⟨b, 0, none⟩ = some (.int .u8 (48 + r))) => conv_one W b c (48 + r) (by omega) (by omega) h
  have ka := fun (W : World) => add_str W [by1 (48 + q)] [by1 (48 + r)] (by simp)
  have e1 : IntKind.i64.wrap q = q := i64_in _ (by omega) (by omega)
  have e2 : IntKind.i64.wrap (48 + r) = 48 + r := i64_in _ (by omega) (by omega)
  have e3 : IntKind.u8.wrap (48 + r) = 48 + r := u8_in _ (by omega) (by omega)
  go_enter Tryz.func52, Tryz.ntmps52
  go_wp2
  go_region_with (first | (go_at_call 52; refine (l01Dec_one q _ hd0 hd1).mono ?_; rintro e w1 ⟨rfl, bb⟩; first | (have cc := (Below.cell (p := ⟨w.heap.size, 0, none⟩) bb (size_first w _)).trans (cell_first w _ _)) | skip))
  all_goals go_wp2
  all_goals go_ret
  all_goals first
    | exact ⟨rfl, ((Below.refl _ _).drew.trans bb).alloc ((Below.refl _ _).drew.trans bb).size _⟩
    | exact ⟨rfl, (((Below.refl _ _).alloc (Nat.le_refl _) _).drew).trans (bb.mono (Nat.le_of_lt (size_first w _)))⟩
/-- The digits, as the library has them. -/
theorem l01Dec_any (n : Nat) (w : World) (h : n < 100) : Calls Tryz.prog 52 #[.int .i64 (n : Int)] w fun e w' => e = .returned (.string ⟨(Lib.decDigits n).toArray⟩) ∧ Below w.heap.size w w' := by
  by_cases h0 : n < 10
  · have e : #[by1 (48 + (n : Int))] = (Lib.decDigits n).toArray := by
      have : ∀ n : Nat, n < 10 → #[by1 (48 + (n : Int))] = (Lib.decDigits n).toArray := by decide +kernel
      exact this n h0
    rw [← e]
    exact l01Dec_one n w (by omega) (by omega)
  · have e : #[by1 (48 + (n : Int) / 10), by1 (48 + (n : Int) % 10)] = (Lib.decDigits n).toArray := by
      have : ∀ n : Nat, n < 100 → ¬ n < 10 → #[by1 (48 + (n : Int) / 10), by1 (48 + (n : Int) % 10)] = (Lib.decDigits n).toArray := by decide +kernel
      exact this n h h0
    rw [← e]
    exact l01Dec_two n w (by omega) (by omega)
end Go.Proofs.YtdijnjigamkhjaaGreatDoor
