/- Texts of sequences, the reference's. -/
import Derived.Test.YtdijnjigamkhjaaGreatDoorG
import Derived.Lib.Join
import Derived.Deep.DeepCutAuto
namespace Go.Proofs.YtdijnjigamkhjaaGreatDoor
open Go.RowKit

/-- The text of a pulse. -/
def puT (p : Pu) : List UInt8 := (if p.b then [45] else []) ++ (by1 (120 + p.a) :: Lib.decDigits p.h.toNat)
/-- The text of a sequence. -/
def seqT (xs : List Pu) : List UInt8 := Lib.join (xs.map puT) [32]
theorem seqT_snoc (xs : List Pu) (p : Pu) : seqT (xs ++ [p]) = (if xs = [] then [] else seqT xs ++ [32]) ++ puT p := by
  unfold seqT
  cases xs with
  | nil => simp [Lib.join_one]
  | cons x r =>
    simp only [List.cons_append, List.map_cons, List.map_append, List.map_nil, Lib.join_cons, Lib.joinTail, List.flatten_append, List.flatten_cons, List.flatten_nil]
    simp
theorem seqT_take (xs : List Pu) (k : Nat) (p : Pu) (h : xs[k]? = some p) : seqT (xs.take (k + 1)) = (if k = 0 then [] else seqT (xs.take k) ++ [32]) ++ puT p := by
  have hk := Row.k_lt h
  have e : xs.take (k + 1) = xs.take k ++ [p] := by
    rw [List.getElem?_eq_getElem hk] at h
    rw [List.take_succ_eq_append_getElem hk, Option.some.inj h]
  rw [e, seqT_snoc]
  by_cases h0 : k = 0
  · subst h0; simp
  · have : xs.take k ≠ [] := by
      intro he
      have := congrArg List.length he
      rw [List.length_take, List.length_nil] at this
      omega
    simp [h0, this]
theorem dec_len (n : Nat) (h : n < 100) : (Lib.decDigits n).length ≤ 2 := by
  have : ∀ n : Nat, n < 100 → (Lib.decDigits n).length ≤ 2 := by decide +kernel
  exact this n h
theorem ok_parts {p : Pu} (h : p.ok = true) : (p.a = 0 ∨ p.a = 1 ∨ p.a = 2) ∧ ∃ k : Nat, p.h = k ∧ k < 100 ∧ k ≤ 24 := by
  unfold Pu.ok inB at h
  simp at h
  exact ⟨by omega, p.h.toNat, by omega, by omega, by omega⟩
theorem puT_len {p : Pu} (h : p.ok = true) : (puT p).length ≤ 4 := by
  obtain ⟨_, k, e, hk, _⟩ := ok_parts h
  have := dec_len k hk
  unfold puT
  rw [e]
  simp
  cases p.b <;> simp <;> omega
theorem seqT_len (xs : List Pu) (h : ∀ p ∈ xs, p.ok = true) : (seqT xs).length ≤ 5 * xs.length := by
  induction xs with
  | nil => simp [seqT, Lib.join_nil]
  | cons x r ih =>
    have h1 := ih (fun p hp => h p (List.mem_cons_of_mem _ hp))
    have h2 := puT_len (h x List.mem_cons_self)
    unfold seqT at h1 ⊢
    cases r with
    | nil => simp [Lib.join_one]; omega
    | cons y r =>
      simp only [List.map_cons, Lib.join_cons, List.length_append, Lib.joinTail_length, List.length_cons, List.length_nil, Lib.lens, List.sum_cons] at h1 ⊢
      simp only [List.length_map] at h1 ⊢
      omega
def Text3 (wr : World) (L : List UInt8) (s3 : Value) (wx : World) : Prop := s3 = .string ⟨L.toArray⟩ ∧ wx = wr
theorem text_step {xs : List Pu} {k h : Nat} {a : Int} {b : Bool} {L L1 L2 : List UInt8} (hp : xs[k]? = some ⟨a, (h : Int), b⟩) (hL : seqT (xs.take k) = L) (h1 : (if k = 0 then [] else L ++ [32]) = L1)
    (h2 : (L1 ++ if b then [45] else []) = L2) : Value.string ⟨(L2 ++ by1 (120 + a) :: Lib.decDigits h).toArray⟩ = .string ⟨(seqT (xs.take (k + 1))).toArray⟩ := by
  rw [seqT_take xs k _ hp, hL, h1, ← h2]
  unfold puT
  simp
theorem cell_later (w : World) {b : Nat} (o : Obj) (hb : b < w.heap.size) (i : Nat) : (w.alloc o).cell? ⟨b, i, none⟩ = w.cell? ⟨b, i, none⟩ := ((Below.refl w.heap.size w).alloc (Nat.le_refl _) o).cell (p := ⟨b, i, none⟩) hb
theorem index_xyz (a : Int) (h : a = 0 ∨ a = 1 ∨ a = 2) (W : World) : (Instr.index 9 (.string ⟨#[120, 121, 122]⟩) (.int .i64 a)).run Tryz.prog W = .ok (.int .u8 (120 + a)) W := by
  rcases h with rfl | rfl | rfl <;> kernel_rfl

set_option maxRecDepth 100000 in
set_option maxHeartbeats 4000000 in
theorem l05Text_any (A : Option Addr) (c : Nat) (xs : List Pu) (w : World) (hn : xs.length ≤ 60) (hok : ∀ p ∈ xs, p.ok = true) (hr : Rd w A xs) :
    Calls Tryz.prog 32 #[.slice A xs.length c] w fun e w' => e = .returned (.string ⟨(seqT xs).toArray⟩) ∧ Below w.heap.size w w' := by
  have HR := Lib.hid hr; clear hr
  have HO := Lib.hid hok; clear hok
  go_enter Tryz.func32, Tryz.ntmps32
  go_wp2
  go_loopw [3, 4] (fun t i wr => ∃ k : Nat, k ≤ xs.length ∧ i = .int .i64 k ∧ t = .string ⟨(seqT (xs.take k)).toArray⟩ ∧ Below w.heap.size w wr) (fun _ i _ => xs.length - (intOf i).toNat)
  case atStart => exact ⟨0, Nat.zero_le _, rfl, rfl, Below.refl _ _⟩
  case round =>
    obtain ⟨k, hk, rfl, rfl, hbw⟩ := hrel
    by_cases hlt : k < xs.length
    · obtain ⟨p, hp⟩ : ∃ p, xs[k]? = some p := ⟨_, List.getElem?_eq_getElem hlt⟩
      obtain ⟨b, off, rfl, hbl, h0, h1, h2⟩ := (HR.out.below hbw) k p hp
      obtain ⟨ha, h', hh, hh1, hh2⟩ := ok_parts (HO.out p (List.mem_of_getElem? hp))
      have hlen := seqT_len (xs.take k) (fun q hq => HO.out q (List.mem_of_mem_take hq))
      have hl2 : (xs.take k).length ≤ 60 := Nat.le_trans (List.length_take_le _ _) (by omega)
      obtain ⟨pa, ph, pb⟩ := p
      dsimp only at ha hh h0 h1 h2
      subst hh
      have hix := index_xyz pa ha
      obtain ⟨L, hL⟩ : ∃ L, seqT (xs.take k) = L := ⟨_, rfl⟩
      rw [hL] at hlen ⊢
      have ka1 := fun (W : World) => add_str W L [32] (by simp; omega)
      have HP := Lib.hid hp; clear hp
      have HA := Lib.hid ha
      obtain ⟨L1, hL1⟩ : ∃ L1, (if k = 0 then [] else L ++ [32]) = L1 := ⟨_, rfl⟩
      have hl1 : L1.length ≤ 301 := by rw [← hL1]; split <;> simp; omega
      have hL0 : k = 0 → L = [] := by rintro rfl; rw [← hL]; rfl
      have HL := Lib.hid hL; clear hL
      have HL0 := Lib.hid hL0; clear hL0
      have HL1 := Lib.hid hL1; clear hL1
      have hpa : 0 ≤ 120 + pa := by omega
      have hpb : 120 + pa < 256 := by omega
      clear ha
      go_upto_if 12 with (fail)
      go_cut [3] (fun s3 wx => Text3 wr L1 s3 wx)
      case first =>
        go_wp2_with fail
        · have hk0 : 0 < k := by assumption
          go_meet
          exact ⟨by rw [← HL1.out, if_neg (by omega)], rfl⟩
        · have hk0 : k = 0 := by first | assumption | omega
          go_meet
          exact ⟨by rw [← HL1.out, if_pos (by omega), HL0.out (by omega)], rfl⟩
      case rest =>
        obtain ⟨rfl, rfl⟩ := hcut
        clear ka1
        have ka2 := fun (W : World) => add_str W L1 [45] (by simp; omega)
        obtain ⟨L2, hL2⟩ : ∃ L2, (L1 ++ if pb then [45] else []) = L2 := ⟨_, rfl⟩
        have hl2 : L2.length ≤ 302 := by rw [← hL2]; cases pb <;> simp <;> omega
        have HL2 := Lib.hid hL2; clear hL2
        go_upto_if 19 with (fail)
        go_cut [3] (fun s3 wx => Text3 wc L2 s3 wx)
        case first =>
          cases pb with
          | true =>
            go_wp2_with fail
            go_meet
            exact ⟨by rw [← HL2.out]; rfl, rfl⟩
          | false =>
            go_wp2_with fail
            go_meet
            exact ⟨by rw [← HL2.out]; simp, rfl⟩
        case rest =>
          obtain ⟨rfl, rfl⟩ := hcut
          clear ka2 h2
          have hdl := dec_len h' hh1
          have ka3 := fun (W : World) => add_str W L2 [by1 (120 + pa)] (by simp; omega)
          have ka4 := fun (W : World) => add_str W (L2 ++ [by1 (120 + pa)]) (Lib.decDigits h') (by simp; omega)
          have kc := fun (W : World) (b c : Nat) (h : W.cell? ⟨b, 0, none⟩ = some (.int .u8 (120 + pa))) => conv_one W b c (120 + pa) hpa hpb h
          go_wp2
          go_region_with (first | (go_at_call 52; refine (l01Dec_any h' _ hh1).mono ?_; rintro e w1 ⟨rfl, bb⟩; first | (have cc := (Below.cell (p := ⟨wc.heap.size, 0, none⟩) bb (size_first wc _)).trans (cell_first wc _ _); have cd := (Below.cell (p := ⟨b, off + k * 3, none⟩) bb (Nat.lt_of_lt_of_le hbl (Nat.le_of_lt (size_first wc _)))).trans ((cell_later wc _ hbl _).trans h0)) | (have cd := (Below.cell (p := ⟨b, off + k * 3, none⟩) bb hbl).trans h0)))
          all_goals go_wp2
          all_goals
            first
            | exact ⟨⟨k + 1, by omega, by go_num, text_step HP.out HL.out HL1.out HL2.out, (hbw.drew.trans (bb.mono hbw.size)).alloc (hbw.drew.trans (bb.mono hbw.size)).size _⟩, by simp [intOf]; omega⟩
            | exact ⟨⟨k + 1, by omega, by go_num, text_step HP.out HL.out HL1.out HL2.out, ((hbw.alloc hbw.size _).drew).trans (bb.mono (Nat.le_trans hbw.size (Nat.le_of_lt (size_first _ _))))⟩, by simp [intOf]; omega⟩
    · obtain rfl : k = xs.length := by omega
      go_wp2
      go_ret
      exact ⟨by simp, hbw⟩
end Go.Proofs.YtdijnjigamkhjaaGreatDoor
