/- Walks: the reference reads a sequence: words, numbers. -/
import Derived.Test.YtdijnjigamkhjaaGreatDoorK
import Derived.Test.YtdijnjigamkhjaaGreatDoorI
import Derived.Laws.Strings2
namespace Go.Proofs.YtdijnjigamkhjaaGreatDoor
open Go.RowKit

theorem size_list (l : List UInt8) : (⟨l.toArray⟩ : ByteArray).size = l.length := by simp [ByteArray.size]
theorem idx_list {l : List UInt8} {c : UInt8} {k : Nat} (h : l[k]? = some c) (W : World) : (Instr.index 9 (.string ⟨l.toArray⟩) (.int .i64 (k : Int))).run Tryz.prog W = .ok (.int .u8 (c.toNat : Int)) W := by
  obtain ⟨hk, hc⟩ := List.getElem?_eq_some_iff.1 h
  rw [run_index_string W 9 _ .i64 _ Tryz.underlying9, dif_pos ⟨by omega, by rw [size_list]; omega⟩]
  congr 3
  rw [← hc]
  simp [ByteArray.getElem_eq_getElem_data]
theorem sl_list {l : List UInt8} {i j : Nat} (h1 : i ≤ j) (h2 : j ≤ l.length) (W : World) : (Instr.slice 9 (.string ⟨l.toArray⟩) (some (.int .i64 (i : Int))) (some (.int .i64 (j : Int))) none).run Tryz.prog W = .ok (.string ⟨((l.drop i).take (j - i)).toArray⟩) W := by
  rw [run_slice_string W 9 _ .i64 .i64 _ _ Tryz.underlying9 (by omega) (by omega) (by rw [size_list]; omega)]
  simp only [Int.toNat_natCast]
  rw [ByteArray.extract_mk]
theorem sl_low {l : List UInt8} {i : Nat} (h1 : i ≤ l.length) (W : World) : (Instr.slice 9 (.string ⟨l.toArray⟩) (some (.int .i64 (i : Int))) none none).run Tryz.prog W = .ok (.string ⟨(l.drop i).toArray⟩) W := by
  rw [run_slice_string_l W 9 _ Tryz.underlying9 .i64 _ (by omega) (by rw [size_list]; omega)]
  simp only [Int.toNat_natCast]
  rw [ByteArray.extract_mk, size_list, List.take_of_length_le (by simp)]
theorem sl_high {l : List UInt8} {j : Nat} (h1 : j ≤ l.length) (W : World) : (Instr.slice 9 (.string ⟨l.toArray⟩) none (some (.int .i64 (j : Int))) none).run Tryz.prog W = .ok (.string ⟨(l.take j).toArray⟩) W := by
  rw [run_slice_string_h W 9 _ Tryz.underlying9 .i64 _ (by omega) (by rw [size_list]; omega)]
  simp only [Int.toNat_natCast]
  rw [ByteArray.extract_mk]
  simp
theorem vald_snoc (d : List UInt8) (c : UInt8) : vald (d ++ [c]) = vald d * 10 + ((c.toNat : Int) - 48) := by
  unfold vald; rw [List.foldl_append]; rfl
theorem vald_take {d : List UInt8} {k : Nat} {c : UInt8} (h : d[k]? = some c) : vald (d.take (k + 1)) = vald (d.take k) * 10 + ((c.toNat : Int) - 48) := by
  obtain ⟨hk, hc⟩ := List.getElem?_eq_some_iff.1 h
  rw [List.take_succ_eq_append_getElem hk, hc, vald_snoc]
theorem digit_iff {c : UInt8} : digit c = true ↔ 48 ≤ c.toNat ∧ c.toNat ≤ 57 := by unfold digit; simp
theorem vald_bound {d : List UInt8} (h : ∀ c ∈ d, digit c = true) : ∀ k, k ≤ d.length → 0 ≤ vald (d.take k) ∧ vald (d.take k) < 10 ^ k := by
  intro k
  induction k with
  | zero => intro _; simp [vald]
  | succ k ih =>
    intro hk
    obtain ⟨c, hc⟩ : ∃ c, d[k]? = some c := ⟨_, List.getElem?_eq_getElem (by omega)⟩
    have hd := digit_iff.1 (h c (List.mem_of_getElem? hc))
    have := ih (by omega)
    rw [vald_take hc]
    have hp : (10 : Int) ^ (k + 1) = 10 ^ k * 10 := Int.pow_succ 10 k
    omega
theorem pow9 {k : Nat} (h : k ≤ 9) : (10 : Int) ^ k ≤ 1000000000 := by
  have : ∀ k : Fin 10, (10 : Int) ^ k.1 ≤ 1000000000 := by decide +kernel
  exact this ⟨k, by omega⟩
/-- Behind the first look: some digits. -/
theorem lnum_of {d : List UInt8} (hx : ¬ (d = [] ∨ 9 < d.length ∨ (1 < d.length ∧ d.head? = some 48))) : lnum d = if d.all digit then vald d else -1 := by
  unfold lnum; rw [if_neg hx]
theorem lnum_bad {d : List UInt8} (hx : d = [] ∨ 9 < d.length ∨ (1 < d.length ∧ d.head? = some 48)) : lnum d = -1 := by
  unfold lnum; rw [if_pos hx]
theorem bad_digit {d : List UInt8} {k : Nat} {c : UInt8} (h : d[k]? = some c) (hc : digit c = false) : d.all digit = false := by
  rw [List.all_eq_false]; exact ⟨c, List.mem_of_getElem? h, by simp [hc]⟩
theorem all_digit {d : List UInt8} (h : ∀ j c, j < d.length → d[j]? = some c → digit c = true) : d.all digit = true := by
  rw [List.all_eq_true]
  intro c hc
  obtain ⟨j, hj, e⟩ := List.mem_iff_getElem.1 hc
  exact h j c hj (by rw [List.getElem?_eq_getElem hj, e])
theorem u8_sub {n : Nat} (h : 48 ≤ n) (h2 : n ≤ 57) : IntKind.u8.wrap ((n : Int) - 48) = (n : Int) - 48 := u8_in _ (by omega) (by omega)
set_option maxHeartbeats 1000000 in
theorem l01Number_loop (d : List UInt8) (w : World) (hx : ¬ (d = [] ∨ 9 < d.length ∨ (1 < d.length ∧ d.head? = some 48))) (hp : 0 < d.length) (h9 : d.length ≤ 9) (c0 : UInt8) (hc0 : d[0]? = some c0) (h48 : 1 < d.length → c0.toNat ≠ 48) :
    Calls Tryz.prog 65 #[.string ⟨d.toArray⟩] w fun e w' => e = .returned (.int .i64 (lnum d)) ∧ w = w' := by
  have hi0 : ∀ W : World, (Instr.index 9 (.string ⟨d.toArray⟩) (.int .i64 0)).run Tryz.prog W = .ok (.int .u8 (c0.toNat : Int)) W := idx_list hc0
  have hik := fun (k : Nat) (c : UInt8) (h : d[k]? = some c) => idx_list h
  have hsz := size_list d
  obtain ⟨R, hR⟩ : ∃ R, lnum d = R := ⟨_, rfl⟩
  have HR1 := Lib.hid (fun (h : d.all digit = false) => show R = -1 by rw [← hR, lnum_of hx, h, if_neg (by decide)])
  have HR2 := Lib.hid (fun (h : d.all digit = true) => show R = vald d by rw [← hR, lnum_of hx, h, if_pos rfl])
  rw [hR]
  clear hx hR
  have H48 := Lib.hid h48; clear h48 hc0
  generalize (⟨d.toArray⟩ : ByteArray) = S at *
  have HIK := Lib.hid hik; clear hik
  have e1 : ((d.length : Int) == 0) = false := by rw [beq_eq_false_iff_ne]; omega
  have e2 : ¬ ((9 : Int) < (d.length : Int)) := by omega
  by_cases h1 : 1 < d.length
  · have e3 : (1 : Int) < (d.length : Int) := by omega
    have e4 : ((c0.toNat : Int) == 48) = false := by rw [beq_eq_false_iff_ne]; have := H48.out h1; omega
    go_enter Tryz.func65, Tryz.ntmps65
    go_wp2
    go_loop [3, 4] (fun v i => ∃ k : Nat, k ≤ d.length ∧ i = .int .i64 k ∧ v = .int .i64 (vald (d.take k)) ∧ (∀ j c, j < k → d[j]? = some c → digit c = true)) (fun _ i => d.length - (intOf i).toNat)
    case atStart => exact ⟨0, Nat.zero_le _, rfl, rfl, fun _ _ h => by omega⟩
    case round =>
      obtain ⟨k, hk, rfl, rfl, hall⟩ := hrel
      clear hi0
      by_cases hlt : k < d.length
      · obtain ⟨c, hc⟩ : ∃ c, d[k]? = some c := ⟨_, List.getElem?_eq_getElem hlt⟩
        have hi := HIK.out k c hc
        have HA := Lib.hid hall; clear hall
        by_cases h6 : c.toNat < 48
        · have f1 : (c.toNat : Int) < 48 := by omega
          have HB := Lib.hid (bad_digit hc (by rw [← Bool.not_eq_true, digit_iff]; omega))
          go_wp2
          go_ret
          exact ⟨by rw [HR1.out HB.out]; rfl, rfl⟩
        · have f1 : ¬ (c.toNat : Int) < 48 := by omega
          by_cases h7 : 57 < c.toNat
          · have f2 : (57 : Int) < (c.toNat : Int) := by omega
            have HB := Lib.hid (bad_digit hc (by rw [← Bool.not_eq_true, digit_iff]; omega))
            go_wp2
            go_ret
            exact ⟨by rw [HR1.out HB.out]; rfl, rfl⟩
          · have f2 : ¬ (57 : Int) < (c.toNat : Int) := by omega
            have hb := vald_bound (d := d.take k) (fun x hx => by
              obtain ⟨j, hj, e⟩ := List.mem_iff_getElem.1 hx
              rw [List.length_take] at hj
              rw [List.getElem_take] at e
              exact HA.out j x (by omega) (by rw [List.getElem?_eq_getElem (by omega), e])) k (by simp; omega)
            rw [List.take_take, Nat.min_self] at hb
            have hp9 := pow9 (k := k) (by omega)
            have hv := vald_take hc
            have w1 : IntKind.u8.wrap ((c.toNat : Int) - 48) = (c.toNat : Int) - 48 := u8_sub (by omega) (by omega)
            have w2 : IntKind.i64.wrap (vald (d.take k) * 10) = vald (d.take k) * 10 := i64_in _ (by omega) (by omega)
            have w3 : IntKind.i64.wrap (vald (d.take k) * 10 + ((c.toNat : Int) - 48)) = vald (d.take k) * 10 + ((c.toNat : Int) - 48) := i64_in _ (by omega) (by omega)
            have w4 : IntKind.i64.wrap ((c.toNat : Int) - 48) = (c.toNat : Int) - 48 := i64_in _ (by omega) (by omega)
            have HV := Lib.hid hv; clear hv
            have HCC := Lib.hid hc; clear hc
            generalize hvd : vald (d.take k) = v at *
            go_wp2
            refine ⟨⟨k + 1, by omega, by go_num, by rw [HV.out], fun j x hj hx => ?_⟩, by simp [intOf]; omega⟩
            rcases Nat.lt_succ_iff_lt_or_eq.1 hj with h | rfl
            · exact HA.out j x h hx
            · have := HCC.out.symm.trans hx
              cases this
              exact digit_iff.2 ⟨by omega, by omega⟩
      · obtain rfl : k = d.length := by omega
        have HA := Lib.hid (all_digit hall); clear hall
        go_wp2
        go_ret
        exact ⟨by rw [HR2.out HA.out]; rfl, rfl⟩
  · have e3 : ¬ (1 : Int) < (d.length : Int) := by omega
    go_enter Tryz.func65, Tryz.ntmps65
    go_wp2
    go_loop [3, 4] (fun v i => ∃ k : Nat, k ≤ d.length ∧ i = .int .i64 k ∧ v = .int .i64 (vald (d.take k)) ∧ (∀ j c, j < k → d[j]? = some c → digit c = true)) (fun _ i => d.length - (intOf i).toNat)
    case atStart => exact ⟨0, Nat.zero_le _, rfl, rfl, fun _ _ h => by omega⟩
    case round =>
      obtain ⟨k, hk, rfl, rfl, hall⟩ := hrel
      clear hi0
      by_cases hlt : k < d.length
      · obtain ⟨c, hc⟩ : ∃ c, d[k]? = some c := ⟨_, List.getElem?_eq_getElem hlt⟩
        have hi := HIK.out k c hc
        have HA := Lib.hid hall; clear hall
        by_cases h6 : c.toNat < 48
        · have f1 : (c.toNat : Int) < 48 := by omega
          have HB := Lib.hid (bad_digit hc (by rw [← Bool.not_eq_true, digit_iff]; omega))
          go_wp2
          go_ret
          exact ⟨by rw [HR1.out HB.out]; rfl, rfl⟩
        · have f1 : ¬ (c.toNat : Int) < 48 := by omega
          by_cases h7 : 57 < c.toNat
          · have f2 : (57 : Int) < (c.toNat : Int) := by omega
            have HB := Lib.hid (bad_digit hc (by rw [← Bool.not_eq_true, digit_iff]; omega))
            go_wp2
            go_ret
            exact ⟨by rw [HR1.out HB.out]; rfl, rfl⟩
          · have f2 : ¬ (57 : Int) < (c.toNat : Int) := by omega
            have hb := vald_bound (d := d.take k) (fun x hx => by
              obtain ⟨j, hj, e⟩ := List.mem_iff_getElem.1 hx
              rw [List.length_take] at hj
              rw [List.getElem_take] at e
              exact HA.out j x (by omega) (by rw [List.getElem?_eq_getElem (by omega), e])) k (by simp; omega)
            rw [List.take_take, Nat.min_self] at hb
            have hp9 := pow9 (k := k) (by omega)
            have hv := vald_take hc
            have w1 : IntKind.u8.wrap ((c.toNat : Int) - 48) = (c.toNat : Int) - 48 := u8_sub (by omega) (by omega)
            have w2 : IntKind.i64.wrap (vald (d.take k) * 10) = vald (d.take k) * 10 := i64_in _ (by omega) (by omega)
            have w3 : IntKind.i64.wrap (vald (d.take k) * 10 + ((c.toNat : Int) - 48)) = vald (d.take k) * 10 + ((c.toNat : Int) - 48) := i64_in _ (by omega) (by omega)
            have w4 : IntKind.i64.wrap ((c.toNat : Int) - 48) = (c.toNat : Int) - 48 := i64_in _ (by omega) (by omega)
            have HV := Lib.hid hv; clear hv
            have HCC := Lib.hid hc; clear hc
            generalize hvd : vald (d.take k) = v at *
            go_wp2
            refine ⟨⟨k + 1, by omega, by go_num, by rw [HV.out], fun j x hj hx => ?_⟩, by simp [intOf]; omega⟩
            rcases Nat.lt_succ_iff_lt_or_eq.1 hj with h | rfl
            · exact HA.out j x h hx
            · have := HCC.out.symm.trans hx
              cases this
              exact digit_iff.2 ⟨by omega, by omega⟩
      · obtain rfl : k = d.length := by omega
        have HA := Lib.hid (all_digit hall); clear hall
        go_wp2
        go_ret
        exact ⟨by rw [HR2.out HA.out]; rfl, rfl⟩
theorem l01Number_no (d : List UInt8) (w : World) (hl : d.length ≤ 2199023255552) (hx : d = [] ∨ 9 < d.length ∨ (1 < d.length ∧ d.head? = some 48)) :
    Calls Tryz.prog 65 #[.string ⟨d.toArray⟩] w fun e w' => e = .returned (.int .i64 (-1)) ∧ w = w' := by
  have hsz := size_list d
  by_cases h0 : d = []
  · subst h0
    generalize (⟨([] : List UInt8).toArray⟩ : ByteArray) = S at *
    have e1 : S.size = 0 := hsz
    clear hsz hx
    go_enter Tryz.func65, Tryz.ntmps65
    go_wp2
    go_ret
    exact ⟨rfl, rfl⟩
  · have hp : 0 < d.length := List.length_pos_iff.2 h0
    have e1 : ((d.length : Int) == 0) = false := by rw [beq_eq_false_iff_ne]; omega
    by_cases h9 : 9 < d.length
    · generalize (⟨d.toArray⟩ : ByteArray) = S at *
      have e2 : (9 : Int) < (d.length : Int) := by omega
      clear hx h0
      go_enter Tryz.func65, Tryz.ntmps65
      go_wp2
      go_ret
      exact ⟨rfl, rfl⟩
    · have hx' : 1 < d.length ∧ d.head? = some 48 := by
        rcases hx with h | h | h
        · exact absurd h h0
        · exact absurd h h9
        · exact h
      have hi0 : ∀ W : World, (Instr.index 9 (.string ⟨d.toArray⟩) (.int .i64 0)).run Tryz.prog W = .ok (.int .u8 48) W := idx_list (c := 48) (by rw [← List.head?_eq_getElem?]; exact hx'.2)
      generalize (⟨d.toArray⟩ : ByteArray) = S at *
      have e2 : ¬ ((9 : Int) < (d.length : Int)) := by omega
      have e3 : (1 : Int) < (d.length : Int) := by omega
      clear hx h0 hx'
      go_enter Tryz.func65, Tryz.ntmps65
      go_wp2
      go_ret
      exact ⟨rfl, rfl⟩
theorem l01Number_any (d : List UInt8) (w : World) (hl : d.length ≤ 2199023255552) :
    Calls Tryz.prog 65 #[.string ⟨d.toArray⟩] w fun e w' => e = .returned (.int .i64 (lnum d)) ∧ w = w' := by
  by_cases hx : d = [] ∨ 9 < d.length ∨ (1 < d.length ∧ d.head? = some 48)
  · rw [lnum_bad hx]
    exact l01Number_no d w hl hx
  · have hp : 0 < d.length := List.length_pos_iff.2 (fun h => hx (.inl h))
    obtain ⟨c0, hc0⟩ : ∃ c, d[0]? = some c := ⟨_, List.getElem?_eq_getElem hp⟩
    refine l01Number_loop d w hx hp (Nat.le_of_not_lt fun h => hx (.inr (.inl h))) c0 hc0 (fun h1 he => hx (.inr (.inr ⟨h1, ?_⟩)))
    rw [List.head?_eq_getElem?, hc0, u8_of he]; rfl

/-! Words. -/
def strs (ws : List (List UInt8)) : List Value := ws.map fun x => .string ⟨x.toArray⟩
theorem strs_snoc (ws : List (List UInt8)) (x : List UInt8) : strs (ws ++ [x]) = strs ws ++ [.string ⟨x.toArray⟩] := by simp [strs]
theorem strs_length (ws : List (List UInt8)) : (strs ws).length = ws.length := by simp [strs]
/-- The call hands back a new slice of texts. -/
def MadeW (ws : List (List UInt8)) (w : World) (e : Ending) (w' : World) : Prop := ∃ v, e = .returned v ∧ w'.ownsRow w.heap.size 9 1 v ws.length (strs ws) ∧ Below w.heap.size w w'
theorem drop_get {l : List UInt8} {a k : Nat} (h : a ≤ k) : (l.drop a)[k - a]? = l[k]? := by rw [List.getElem?_drop]; congr 1; omega
set_option maxHeartbeats 1000000 in
theorem l01Split_any (l : List UInt8) (w : World) (hl : l.length ≤ 1099511627776) : Calls Tryz.prog 64 #[.string ⟨l.toArray⟩, .int .u8 32] w (MadeW (spl l) w) := by
  have hik := fun (k : Nat) (c : UInt8) (h : l[k]? = some c) => idx_list h
  have hsl := fun (i j : Nat) (h1 : i ≤ j) (h2 : j ≤ l.length) => sl_list (l := l) h1 h2
  have hlo := fun (i : Nat) (h1 : i ≤ l.length) => sl_low (l := l) h1
  have hsz := size_list l
  generalize (⟨l.toArray⟩ : ByteArray) = S at *
  have HIK := Lib.hid hik; clear hik
  have HSL := Lib.hid hsl; clear hsl
  have HLO := Lib.hid hlo; clear hlo
  obtain ⟨i0, hi, hz0, hz1, hz2⟩ := info_parts info9
  have HI := Lib.hid hi; clear hi
  have HZ0 := Lib.hid hz0; clear hz0
  have HZ1 := Lib.hid hz1; clear hz1
  have HZ2 := Lib.hid hz2; clear hz2
  have H0 := Lib.hid (heap_alloc_new w (.cells #[] 9))
  have B0 := Lib.hid ((Below.refl w.heap.size w).alloc (Nat.le_refl _) (.cells #[] 9))
  unfold MadeW
  go_enter Tryz.func64, Tryz.ntmps64
  go_wp2
  go_loopw [5, 6, 7] (fun v at_ i wr => ∃ (k a : Nat) (done : List (List UInt8)), k ≤ l.length ∧ i = .int .i64 k ∧ at_ = .int .i64 a ∧ a ≤ k ∧ done.length ≤ a ∧ spl l = done ++ spl (l.drop a) ∧ (∀ j, a ≤ j → j < k → l[j]? ≠ some 32) ∧ wr.ownsRow w.heap.size 9 1 v done.length (strs done) ∧ Below w.heap.size w wr) (fun _ _ i _ => l.length - (intOf i).toNat)
  case atStart => exact ⟨0, 0, [], Nat.zero_le _, rfl, rfl, Nat.le_refl _, Nat.le_refl _, rfl, fun _ _ h => by omega, ⟨rfl, .inr ⟨w.heap.size, 0, #[], rfl, Nat.le_refl _, H0.out, Nat.le_refl _, Nat.zero_le _, rfl, rfl⟩⟩, B0.out⟩
  case round =>
    obtain ⟨k, a, done, hk, rfl, rfl, hak, hda, hspl, hno, hown, hbw⟩ := hrel
    clear H0 B0
    have HN := Lib.hid hno; clear hno
    have HS := Lib.hid hspl; clear hspl
    have HW := Lib.hid hown; clear hown
    have BW := Lib.hid hbw
    have hsz2 := hbw.size
    by_cases hlt : k < l.length
    · obtain ⟨c, hc⟩ : ∃ c, l[k]? = some c := ⟨_, List.getElem?_eq_getElem hlt⟩
      have hi := HIK.out k c hc
      have HC := Lib.hid hc; clear hc
      by_cases h32 : c = 32
      · subst h32
        have e1 : (((32 : UInt8).toNat : Int) == 32) = true := by decide
        have hs := HSL.out a k hak hk
        obtain ⟨x, hx⟩ : ∃ x, (l.drop a).take (k - a) = x := ⟨_, rfl⟩
        rw [hx] at hs
        have hcut := spl_at (l := l.drop a) (i := k - a) (by rw [drop_get hak]; exact HC.out) (fun j hj => by
          have := HN.out (a + j) (by omega) (by omega)
          rwa [List.getElem?_drop])
        rw [hx, List.drop_drop, show a + (k - a + 1) = k + 1 by omega] at hcut
        have HCut := Lib.hid hcut; clear hcut hx
        go_wp2_with (at_builtin; refine wpList_append_own _ rfl _ _ 41 rfl w.heap.size 9 i0 (.string ⟨#[]⟩) 1 16 Tryz.underlying41 HI.out HZ0.out HZ1.out HZ2.out rfl (by decide) _ _ _ rfl (HW.out.alloc _) ⟨wr.heap.size, 0, none⟩ 1 1 [.string ⟨x.toArray⟩] rfl rfl ?c1 ?c2 ?c3 ?c4 ?c5 ?_)
        case c1 =>
          intro j u hj
          match j, hj with
          | 0, hj => cases hj; exact cell_first wr _ _
        case c2 => intro u hu; simp at hu; subst hu; rfl
        case c3 => unfold maxLen; omega
        case c4 => omega
        case c5 => simp; omega
        intro v' w3 hown' hgrow _
        rw [← strs_snoc] at hown'
        have O3 := Lib.hid hown'
        have B3 := Lib.hid ((BW.out.alloc BW.out.size _).grown hgrow (BW.out.alloc BW.out.size _).size (fun k hk => (HW.out.lt k hk).1))
        clear hown' hgrow
        go_wp2
        exact ⟨⟨k + 1, k + 1, done ++ [x], by omega, by go_num, by go_num, Nat.le_refl _, by simp; omega, by rw [HS.out, HCut.out, List.append_assoc]; rfl, fun j h1 h2 => by omega, by rw [List.length_append]; exact O3.out, B3.out⟩, by simp [intOf]; omega⟩
      · have e1 : ((c.toNat : Int) == 32) = false := by
          rw [beq_eq_false_iff_ne]
          intro h
          exact h32 (by rw [u8_of (show c.toNat = 32 by omega)]; rfl)
        go_wp2
        refine ⟨⟨k + 1, a, done, by omega, by go_num, rfl, by omega, hda, HS.out, fun j h1 h2 => ?_, HW.out, BW.out⟩, by simp [intOf]; omega⟩
        rcases Nat.lt_succ_iff_lt_or_eq.1 h2 with h | rfl
        · exact HN.out j h1 h
        · rw [HC.out]; exact fun e => h32 (Option.some.inj e)
    · obtain rfl : k = l.length := by omega
      have hs := HLO.out a hak
      obtain ⟨x, hx⟩ : ∃ x, l.drop a = x := ⟨_, rfl⟩
      have hlast := spl_none (l := l.drop a) (fun j hj => by
        rw [List.length_drop] at hj
        have := HN.out (a + j) (by omega) (by omega)
        rwa [List.getElem?_drop])
      rw [hx] at hs hlast
      have HL := Lib.hid (show spl l = done ++ [x] by rw [HS.out, hx, hlast]); clear hlast hx
      go_wp2_with (at_builtin; refine wpList_append_own _ rfl _ _ 41 rfl w.heap.size 9 i0 (.string ⟨#[]⟩) 1 16 Tryz.underlying41 HI.out HZ0.out HZ1.out HZ2.out rfl (by decide) _ _ _ rfl (HW.out.alloc _) ⟨wr.heap.size, 0, none⟩ 1 1 [.string ⟨x.toArray⟩] rfl rfl ?c1 ?c2 ?c3 ?c4 ?c5 ?_)
      case c1 =>
        intro j u hj
        match j, hj with
        | 0, hj => cases hj; exact cell_first wr _ _
      case c2 => intro u hu; simp at hu; subst hu; rfl
      case c3 => unfold maxLen; omega
      case c4 => omega
      case c5 => simp; omega
      intro v' w3 hown' hgrow _
      rw [← strs_snoc] at hown'
      have O3 := Lib.hid hown'
      have B3 := Lib.hid ((BW.out.alloc BW.out.size _).grown hgrow (BW.out.alloc BW.out.size _).size (fun k hk => (HW.out.lt k hk).1))
      clear hown' hgrow
      go_wp2
      go_ret
      exact ⟨_, rfl, by rw [HL.out, List.length_append]; exact O3.out, B3.out⟩
end Go.Proofs.YtdijnjigamkhjaaGreatDoor
