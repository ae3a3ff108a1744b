/- Texts of sequences, the program's. -/
import Derived.Test.YtdijnjigamkhjaaGreatDoorH
import Derived.WalkSmall
namespace Go.Proofs.YtdijnjigamkhjaaGreatDoor
open Go.RowKit

theorem slice_xyz (a : Int) (h : a = 0 ∨ a = 1 ∨ a = 2) (W : World) : (Instr.slice 9 (.string ⟨#[120, 121, 122]⟩) (some (.int .i64 a)) (some (.int .i64 (a + 1))) none).run Tryz.prog W = .ok (.string ⟨#[by1 (120 + a)]⟩) W := by
  rcases h with rfl | rfl | rfl <;> kernel_rfl

set_option maxRecDepth 100000 in
set_option maxHeartbeats 1000000 in
theorem pulseText_any (p : Pu) (w : World) (h : p.ok = true) : Calls Tryz.prog 29 #[p.val] w fun e w' => e = .returned (.string ⟨(puT p).toArray⟩) ∧ Below w.heap.size w w' := by
  obtain ⟨ha, h', hh, hh1, hh2⟩ := ok_parts h
  obtain ⟨pa, ph, pb⟩ := p
  dsimp only at ha hh
  subst hh
  clear h
  have hsl := slice_xyz pa ha
  have e1 : IntKind.i64.wrap (pa + 1) = pa + 1 := i64_in _ (by omega) (by omega)
  have hdl := dec_len h' hh1
  have ka := fun (W : World) => add_str W [by1 (120 + pa)] (Lib.decDigits h') (by simp; omega)
  have kb := fun (W : World) => add_str W [45] (by1 (120 + pa) :: Lib.decDigits h') (by simp; omega)
  have hT : puT ⟨pa, (h' : Int), pb⟩ = (if pb then [45] else []) ++ (by1 (120 + pa) :: Lib.decDigits h') := rfl
  rw [hT]
  clear hT
  unfold Pu.val
  go_enter Tryz.func29, Tryz.ntmps29
  go_wp2
  clear ha
  go_quiet ((go_at_call 47; exact Calls.quiet_of_same (Tryz.strconv_FormatInt_10_small h' hh1 _)))
  have hb := below_drewN ((Below.refl w.heap.size w).alloc (Nat.le_refl _) (.cells #[.int .i64 pa, .int .i64 (h' : Int), .bool pb] 43)) nq
  have HB := Lib.hid hb; clear hb
  cases pb with
  | true =>
    go_wp2
    go_ret
    exact ⟨by simp, HB.out⟩
  | false =>
    go_wp2
    go_ret
    exact ⟨by simp, HB.out⟩

theorem info9 : (Tryz.prog.info? 9).map (fun i => (i.zero, i.size, i.bytes)) = some (some (.string ⟨#[]⟩), 1, 16) := by kernel_rfl
theorem pulseText_agg (a h : Int) (b : Bool) (w : World) (hp : Pu.ok ⟨a, h, b⟩ = true) : Calls Tryz.prog 29 #[.agg #[.int .i64 a, .int .i64 h, .bool b]] w fun e w' => e = .returned (.string ⟨(puT ⟨a, h, b⟩).toArray⟩) ∧ Below w.heap.size w w' := pulseText_any ⟨a, h, b⟩ w hp
theorem addr_plus (b o j : Nat) : (⟨b, o, none⟩ : Addr).add j = ⟨b, o + j, none⟩ := by unfold Addr.add; split <;> simp_all
/-- The words of a sequence. -/
def wds (xs : List Pu) : List Value := xs.map fun p => .string ⟨(puT p).toArray⟩
theorem ownsRow_below {w w' : World} {base n : Nat} {e : TypeId} {size : Nat} {v : Value} {xs : List Value} (h : w.ownsRow base e size v n xs) (hb : Below w.heap.size w w') : w'.ownsRow base e size v n xs := by
  obtain ⟨hl, h | ⟨g, cap, cur, e', hg, hh, rest⟩⟩ := h
  · exact ⟨hl, .inl h⟩
  · exact ⟨hl, .inr ⟨g, cap, cur, e', hg, (hb.block g (Array.getElem?_eq_some_iff.1 hh).1).trans hh, rest⟩⟩
theorem wds_snoc (xs : List Pu) (k : Nat) (p : Pu) (h : xs[k]? = some p) : wds (xs.take (k + 1)) = wds (xs.take k) ++ [.string ⟨(puT p).toArray⟩] := by
  have hk := Row.k_lt h
  rw [List.getElem?_eq_getElem hk] at h
  unfold wds
  rw [List.take_succ_eq_append_getElem hk, Option.some.inj h]
  simp
/-- The call hands back a text with a code. -/
def TellsS (l : List UInt8) (k : Int) (w : World) (e : Ending) (w' : World) : Prop := e = .returned (.tuple #[.string ⟨l.toArray⟩, .int .i64 k]) ∧ Below w.heap.size w w'
theorem isSeq_parts {xs : List Pu} (h : isSeq xs = true) : xs.length ≤ 60 ∧ ∀ p ∈ xs, p.ok = true := by
  unfold isSeq at h
  simp only [Bool.and_eq_true, decide_eq_true_eq, List.all_eq_true] at h
  exact h

set_option maxRecDepth 100000 in
set_option maxHeartbeats 4000000 in
theorem implText_yes (A : Option Addr) (c : Nat) (xs : List Pu) (w : World) (hs : isSeq xs = true) (hr : Rd w A xs) :
    Calls Tryz.prog 6 #[.slice A xs.length c] w (TellsS (seqT xs) 0 w) := by
  obtain ⟨hn, hok⟩ := isSeq_parts hs
  have HS := Lib.hid hs; clear hs
  have HR := Lib.hid hr; clear hr
  have HO := Lib.hid hok; clear hok
  obtain ⟨i0, hi, hz0, hz1, hz2⟩ := info_parts info9
  have HI := Lib.hid hi; clear hi
  have HZ0 := Lib.hid hz0; clear hz0
  have HZ1 := Lib.hid hz1; clear hz1
  have HZ2 := Lib.hid hz2; clear hz2
  unfold TellsS
  go_enter Tryz.func6, Tryz.ntmps6
  go_wp2_with fail
  refine (implIsSequence_any _ _ _ _ (by omega) HR.out).mono ?_
  rintro e w1 ⟨rfl, b1⟩
  rw [HS.out]
  have B1 := Lib.hid b1; clear b1
  go_wp2
  go_loopw [4, 12] (fun v i wr => ∃ k : Nat, k ≤ xs.length ∧ i = .int .i64 k ∧ wr.ownsRow w.heap.size 9 1 v k (wds (xs.take k)) ∧ Below w.heap.size w wr) (fun _ i _ => xs.length - (intOf i).toNat)
  case atStart => exact ⟨0, Nat.zero_le _, rfl, World.ownsRow_nil _ _ _ _, B1.out⟩
  case round =>
    obtain ⟨k, hk, rfl, hown, hbw⟩ := hrel
    clear B1
    by_cases hlt : k < xs.length
    · obtain ⟨p, hp⟩ : ∃ p, xs[k]? = some p := ⟨_, List.getElem?_eq_getElem hlt⟩
      obtain ⟨b, off, rfl, hbl, h0, h1, h2⟩ := (HR.out.below hbw) k p hp
      have hpok := HO.out p (List.mem_of_getElem? hp)
      obtain ⟨pa, ph, pb⟩ := p
      have HP := Lib.hid hp; clear hp
      have HPO := Lib.hid hpok; clear hpok
      have HW := Lib.hid hown; clear hown
      go_wp2_with fail
      refine (pulseText_agg pa ph pb _ HPO.out).mono ?_
      rintro e w2 ⟨rfl, b2⟩
      have O2 := Lib.hid (ownsRow_below (HW.out.alloc _) b2)
      have B2 := Lib.hid ((hbw.alloc hbw.size _).trans (b2.mono (Nat.le_trans hbw.size (Nat.le_of_lt (size_first _ _)))))
      clear b2 h0 h1 h2
      have hsz := B2.out.size
      go_wp2_with (at_builtin; refine wpList_append_own _ rfl _ _ 41 rfl w.heap.size 9 i0 (.string ⟨#[]⟩) 1 16 Tryz.underlying41 HI.out HZ0.out HZ1.out HZ2.out rfl (by decide) _ _ _ rfl (O2.out.alloc _) ⟨w2.heap.size, 0, none⟩ 1 1 [.string ⟨(puT ⟨pa, ph, pb⟩).toArray⟩] rfl rfl ?c1 ?c2 ?c3 ?c4 ?c5 ?_)
      case c1 =>
        intro j u hj
        match j, hj with
        | 0, hj => cases hj; exact cell_first w2 _ _
      case c2 => intro u hu; simp at hu; subst hu; rfl
      case c3 => unfold maxLen; omega
      case c4 => omega
      case c5 => simp; omega
      intro v' w3 hown' hgrow _
      rw [← wds_snoc _ _ _ HP.out] at hown'
      have O3 := Lib.hid hown'
      have B3 := Lib.hid ((B2.out.alloc B2.out.size _).grown hgrow (B2.out.alloc B2.out.size _).size (fun k hk => (O2.out.lt k hk).1))
      clear hown' hgrow
      go_wp2
      exact ⟨⟨k + 1, by omega, by go_num, O3.out, B3.out⟩, by simp [intOf]; omega⟩
    · obtain rfl : k = xs.length := by omega
      rw [List.take_length] at hown
      have HW := Lib.hid hown
      obtain ⟨hl, ⟨rfl, h0⟩ | ⟨g, cap, cur, rfl, hg, hh, hc, hm, hs, ht⟩⟩ := hown
      · have e0 : xs = [] := List.eq_nil_of_length_eq_zero h0
        subst e0
        clear hl h0 hlt HW hk
        go_wp2_with (go_at_call 30; refine (Tryz.strings_Join_none _ _ _ _).mono ?_; rintro e w' ⟨rfl, rfl⟩)
        go_ret2
        exact ⟨rfl, hbw⟩
      · have hgl := (Array.getElem?_eq_some_iff.1 hh).1
        have hcells := HW.out.cells (g := g) rfl
        have hj := Tryz.strings_Join g 0 cap (xs.map fun p => ⟨(puT p).toArray⟩) ⟨#[32]⟩ wr (fun j x hx => by
          have := hcells j (.string x) (by simp [wds] at hx ⊢; exact hx)
          rw [addr_plus] at this
          exact this) hgl (by simp; omega) (by simpa using hc) (by
            have := seqT_len xs HO.out
            unfold seqT at this
            rw [List.map_map]
            exact Nat.le_trans this (by omega))
        simp only [List.length_map, List.map_map] at hj
        have HJ := Lib.hid hj
        clear hj hcells hl hh hs ht hlt hk
        go_wp2_with (go_at_call 30; refine HJ.out.mono ?_; rintro e w2 ⟨rfl, b2⟩)
        go_ret2
        exact ⟨rfl, hbw.trans (b2.mono hbw.size)⟩
end Go.Proofs.YtdijnjigamkhjaaGreatDoor
