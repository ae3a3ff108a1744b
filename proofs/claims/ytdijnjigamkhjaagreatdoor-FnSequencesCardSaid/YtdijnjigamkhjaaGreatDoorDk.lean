/- FnSequences returns true at every input: the walk. -/
import Derived.Test.YtdijnjigamkhjaaGreatDoorDi
import Derived.Test.YtdijnjigamkhjaaGreatDoorDj
import Derived.Test.YtdijnjigamkhjaaGreatDoorPl
import Derived.Test.YtdijnjigamkhjaaGreatDoorEc
import Derived.Test.YtdijnjigamkhjaaGreatDoorSt
import Derived.Test.YtdijnjigamkhjaaGreatDoorJ
import Derived.Test.YtdijnjigamkhjaaGreatDoorU
namespace Go.Proofs.YtdijnjigamkhjaaGreatDoor
open Go.RowKit

/-- The call hands back this text and code. -/
def TellsT (S : ByteArray) (k : Int) (w : World) (e : Ending) (w' : World) : Prop := e = .returned (.tuple #[.string S, .int .i64 k]) ∧ Below w.heap.size w w'
/-- What holds of a list that is a sequence. -/
structure SeqFacts (xs : List Pu) (S : ByteArray) (ys zs : List Pu) (a0 a1 a2 : Int) : Prop where
  parse : ∀ W, Ev W → Calls Tryz.prog 10 #[.string S] W (MadeP xs 0 W)
  inv1 : ∀ A c W, Rd W A xs → Calls Tryz.prog 11 #[.slice A xs.length c] W (Made2 ys 0 W)
  inv2 : ∀ A c W, Rd W A ys → Calls Tryz.prog 11 #[.slice A ys.length c] W (Made2 xs 0 W)
  ang1 : ∀ A c W, Rd W A xs → Calls Tryz.prog 13 #[.slice A xs.length c] W (MadeI2 [a0, a1, a2] 0 W)
  ang2 : ∀ A c W, Rd W A ys → Calls Tryz.prog 13 #[.slice A ys.length c] W (MadeI2 [-a0, -a1, -a2] 0 W)
  sh1 : ∀ A c W, Rd W A xs → Calls Tryz.prog 14 #[.slice A xs.length c] W (Made2 zs 0 W)
  ang3 : ∀ A c W, Rd W A zs → Calls Tryz.prog 13 #[.slice A zs.length c] W (MadeI2 [a0, a1, a2] 0 W)
  sh2 : ∀ A c W, Rd W A zs → Calls Tryz.prog 14 #[.slice A zs.length c] W (Made2 zs 0 W)
  le : zs.length ≤ xs.length
  bd : (-1006632960 ≤ a0 ∧ a0 ≤ 1006632960) ∧ (-1006632960 ≤ a1 ∧ a1 ≤ 1006632960) ∧ (-1006632960 ≤ a2 ∧ a2 ≤ 1006632960)
theorem seq_facts {xs : List Pu} (h : isSeq xs = true) : SeqFacts xs ⟨(seqT xs).toArray⟩ (inv xs) (fin_ xs) (sAx 0 xs) (sAx 1 xs) (sAx 2 xs) := by
  obtain ⟨h1, h2⟩ := seq_parts' h
  obtain ⟨f1, f2, f3⟩ := fin_seq h
  have hi := inv_seq h
  have hl : (inv xs).length ≤ 1048576 := by unfold inv; simp; omega
  have hx : xs.length ≤ 1048576 := by omega
  have hf : (fin_ xs).length ≤ 1048576 := by omega
  refine ⟨?_, ?_, ?_, ?_, ?_, ?_, ?_, ?_, f3, ?_⟩
  · intro W hev
    have := implParse_any (seqT xs) W (by have := seqT_len xs h2; omega) hev
    rwa [(text_back h).1, (text_back h).2] at this
  · intro A c W hr
    have := implInverse_any A c xs W hx hr
    unfold invRes invCode at this
    rwa [if_pos h, if_pos h] at this
  · intro A c W hr
    have := implInverse_any A c (inv xs) W hl hr
    unfold invRes invCode at this
    rwa [if_pos hi, if_pos hi, inv_inv] at this
  · intro A c W hr
    have := implAngles_any A c xs W hx hr
    unfold angRes angCode at this
    rwa [if_pos h, if_pos h, ang_ax] at this
  · intro A c W hr
    have := implAngles_any A c (inv xs) W hl hr
    unfold angRes angCode at this
    rwa [if_pos hi, if_pos hi, ang_inv] at this
  · intro A c W hr
    have := implShorten_any A c xs W hx hr
    unfold shortRes shortCode at this
    rwa [if_pos h, if_pos h] at this
  · intro A c W hr
    have := implAngles_any A c (fin_ xs) W hf hr
    unfold angRes angCode at this
    rwa [if_pos f1, if_pos f1, f2, ang_ax] at this
  · intro A c W hr
    have := implShorten_any A c (fin_ xs) W hf hr
    unfold shortRes shortCode at this
    rwa [if_pos f1, if_pos f1, fin_fin] at this
  · have hb := ang_le h xs.length
    rw [List.take_length, ang_ax] at hb
    exact ⟨hb _ (by simp), hb _ (by simp), hb _ (by simp)⟩
theorem text_facts (xs : List Pu) (hl : xs.length ≤ 61) : ∃ (S : ByteArray) (k : Int), (∀ A c W, Rd W A xs → Calls Tryz.prog 6 #[.slice A xs.length c] W (TellsT S k W)) ∧ (∀ A c W, Rd W A xs → Calls Tryz.prog 7 #[.slice A xs.length c] W (TellsT S k W)) ∧
    ((k = 0 ∧ ∃ ys zs a0 a1 a2, SeqFacts xs S ys zs a0 a1 a2) ∨ k ≠ 0) := by
  refine ⟨⟨(txtL xs).toArray⟩, txtC xs, fun A c W hr => implText_any A c xs W (by omega) hr, fun A c W hr => specText_any A c xs W (by omega) hr, ?_⟩
  cases hs : isSeq xs with
  | true =>
    rw [(txt_yes hs).1, (txt_yes hs).2]
    exact .inl ⟨rfl, _, _, _, _, _, seq_facts hs⟩
  | false =>
    rw [(txt_no hs).2]
    exact .inr (by decide)
theorem is_facts (xs : List Pu) (hl : xs.length ≤ 61) : ∃ b : Bool, (∀ A c W, Rd W A xs → Calls Tryz.prog 8 #[.slice A xs.length c] W fun e w' => e = .returned (.bool b) ∧ Below W.heap.size W w') ∧ (∀ A c W, Rd W A xs → Calls Tryz.prog 9 #[.slice A xs.length c] W fun e w' => e = .returned (.bool b) ∧ Below W.heap.size W w') :=
  ⟨isSeq xs, fun A c W hr => implIsSequence_any A c xs W (by omega) hr, fun A c W hr => (specIs_any A c xs W (by omega) hr).mono fun e w' ⟨he, hw⟩ => ⟨he, by rw [← hw]; exact Below.refl _ _⟩⟩
theorem two_len {ys : List Pu} {xs : List Pu} (h : ys.length ≤ xs.length + 61) (hl : xs.length ≤ 61) : ys.length ≤ 1048576 := by omega
theorem short_len (xs : List Pu) (hl : xs.length ≤ 61) : (shortRes xs).length ≤ 1048576 := by
  unfold shortRes
  split
  · exact Nat.le_trans (shortN_length _ _) (by omega)
  · simp
theorem echo_len (xs : List Pu) (hl : xs.length ≤ 61) : (echoRes xs).length ≤ 1048576 := by
  unfold echoRes
  split
  · split
    · simp [echo]; omega
    · simp
  · simp
theorem inv_len (xs : List Pu) (hl : xs.length ≤ 61) : (invRes xs).length ≤ 1048576 := by
  unfold invRes
  split
  · simp [inv]; omega
  · simp
theorem ang_len (xs : List Pu) (hl : xs.length ≤ 61) : (angRes xs).length ≤ 1048576 := by
  unfold angRes
  split
  · rw [ang_length]; omega
  · simp
theorem short_facts (xs : List Pu) (hl : xs.length ≤ 61) : ∃ (r : List Pu) (k : Int), r.length ≤ 1048576 ∧ (∀ A c W, Rd W A xs → Calls Tryz.prog 14 #[.slice A xs.length c] W (Made2 r k W)) ∧ (∀ A c W, Rd W A xs → Calls Tryz.prog 17 #[.slice A xs.length c] W (Made2 r k W)) :=
  ⟨shortRes xs, shortCode xs, short_len xs hl,
    fun A c W hr => implShorten_any A c xs W (by omega) hr, fun A c W hr => specShorten_any A c xs W (by omega) hr⟩
theorem echo_facts (xs : List Pu) (hl : xs.length ≤ 61) : ∃ (r : List Pu) (k : Int), r.length ≤ 1048576 ∧ (∀ A c W, Rd W A xs → Calls Tryz.prog 19 #[.slice A xs.length c] W (Made2 r k W)) ∧ (∀ A c W, Rd W A xs → Calls Tryz.prog 20 #[.slice A xs.length c] W (Made2 r k W)) :=
  ⟨echoRes xs, echoCode xs, echo_len xs hl,
    fun A c W hr => implEcho_any A c xs W (by omega) hr, fun A c W hr => specEcho_any A c xs W (by omega) hr⟩
theorem inv_facts (xs : List Pu) (hl : xs.length ≤ 61) : ∃ (r : List Pu) (k : Int), r.length ≤ 1048576 ∧ (∀ A c W, Rd W A xs → Calls Tryz.prog 11 #[.slice A xs.length c] W (Made2 r k W)) ∧ (∀ A c W, Rd W A xs → Calls Tryz.prog 22 #[.slice A xs.length c] W (Made2 r k W)) :=
  ⟨invRes xs, invCode xs, inv_len xs hl,
    fun A c W hr => implInverse_any A c xs W (by omega) hr, fun A c W hr => specInverse_any A c xs W (by omega) hr⟩
theorem ang_facts (xs : List Pu) (hl : xs.length ≤ 61) : ∃ (r : List Int) (k : Int), r.length ≤ 1048576 ∧ (∀ A c W, Rd W A xs → Calls Tryz.prog 13 #[.slice A xs.length c] W (MadeI2 r k W)) ∧ (∀ A c W, Rd W A xs → Calls Tryz.prog 24 #[.slice A xs.length c] W (MadeI2 r k W)) :=
  ⟨angRes xs, angCode xs, ang_len xs hl,
    fun A c W hr => implAngles_any A c xs W (by omega) hr, fun A c W hr => specAngles_any A c xs W (by omega) hr⟩
theorem parse_facts (l : List UInt8) (hl : l.length ≤ 1099511627776) : ∃ (r : List Pu) (k : Int), r.length ≤ 1048576 ∧ (∀ W, Ev W → Calls Tryz.prog 10 #[.string ⟨l.toArray⟩] W (MadeP r k W)) ∧ (∀ W, Calls Tryz.prog 26 #[.string ⟨l.toArray⟩] W (MadeP r k W)) := by
  refine ⟨prV l, prC l, ?_, fun W hev => implParse_any l W hl hev, fun W => specParse_any l W hl⟩
  unfold prV readL
  split
  · simp
  · split
    · simp
    · rename_i h
      cases hs : seqOf (spl l) with
      | none => simp
      | some ps =>
        have := seqOf_length hs
        show ps.length ≤ 1048576
        omega

theorem at_three {k : Nat} {a0 a1 a2 : Int} (hk : k < 3) (hb : (-1006632960 ≤ a0 ∧ a0 ≤ 1006632960) ∧ (-1006632960 ≤ a1 ∧ a1 ≤ 1006632960) ∧ (-1006632960 ≤ a2 ∧ a2 ≤ 1006632960)) : ∃ x, [a0, a1, a2][k]? = some x ∧ [-a0, -a1, -a2][k]? = some (-x) ∧ -1006632960 ≤ x ∧ x ≤ 1006632960 := by
  match k, hk with
  | 0, _ => exact ⟨a0, rfl, rfl, hb.1⟩
  | 1, _ => exact ⟨a1, rfl, rfl, hb.2.1⟩
  | 2, _ => exact ⟨a2, rfl, rfl, hb.2.2⟩
set_option maxRecDepth 100000 in
set_option maxHeartbeats 8000000 in
theorem sequences_walk (A : Option Addr) (n c : Nat) (w : World) (hc : Cd w A n) (hev : Ev w) :
    Calls Tryz.prog 3 #[.slice A n c] w fun e w' => e = .returned (.bool true) ∧ Below w.heap.size w w' := by
  by_cases hn : n ≤ 4096
  · have HC := Lib.hid hc
    have HE := Lib.hid hev
    have HB := Lib.hid (Below.refl w.heap.size w)
    have HC0 := Lib.hid hc
    have HE0 := Lib.hid hev
    have hbig : decide ((4096 : Int) < (n : Int)) = false := by simp; omega
    clear hc hev
    go_enter Tryz.func3, Tryz.ntmps3
    go_wp2_with fail
    refine (big_any A n c w).mono ?_
    rintro e w' ⟨rfl, rfl⟩
    rw [hbig]
    clear hbig
    go_wp2_with fail
    refine (drawText_any A n c _ hn HC.out).mono ?_
    rintro e w1 ⟨v, xx, rfl, o, hlx, b⟩
    obtain ⟨Ax, cx, hv, r⟩ := o.rd
    subst hv
    have HB := Lib.hid (HB.out.trans (b.mono HB.out.size))
    have HC := Lib.hid (HC.out.below b)
    have HE := Lib.hid (HE.out.below b)
    have Rx := Lib.hid r
    clear r o b
    obtain ⟨S, k, kt1, kt2, kt3⟩ := text_facts xx hlx
    have KT1 := Lib.hid kt1
    have KT2 := Lib.hid kt2
    have KT3 := Lib.hid kt3
    obtain ⟨bb, ki1, ki2⟩ := is_facts xx hlx
    have KI1 := Lib.hid ki1
    have KI2 := Lib.hid ki2
    clear kt1 kt2 kt3 ki1 ki2
    go_wp2_with fail
    refine (KT1.out Ax cx _ Rx.out).mono ?_
    rintro e w2 ⟨rfl, b⟩
    have HB := Lib.hid (HB.out.trans (b.mono HB.out.size))
    have HC := Lib.hid (HC.out.below b)
    have HE := Lib.hid (HE.out.below b)
    have Rx := Lib.hid (Rx.out.below b)
    clear b
    go_wp2_with fail
    refine (KT2.out Ax cx _ Rx.out).mono ?_
    rintro e w3 ⟨rfl, b⟩
    have HB := Lib.hid (HB.out.trans (b.mono HB.out.size))
    have HC := Lib.hid (HC.out.below b)
    have HE := Lib.hid (HE.out.below b)
    have Rx := Lib.hid (Rx.out.below b)
    clear b
    go_wp2_with fail
    refine (KI1.out Ax cx _ Rx.out).mono ?_
    rintro e w4 ⟨rfl, b⟩
    have HB := Lib.hid (HB.out.trans (b.mono HB.out.size))
    have HC := Lib.hid (HC.out.below b)
    have HE := Lib.hid (HE.out.below b)
    have Rx := Lib.hid (Rx.out.below b)
    clear b
    go_wp2_with fail
    refine (KI2.out Ax cx _ Rx.out).mono ?_
    rintro e w5 ⟨rfl, b⟩
    have HB := Lib.hid (HB.out.trans (b.mono HB.out.size))
    have HC := Lib.hid (HC.out.below b)
    have HE := Lib.hid (HE.out.below b)
    have Rx := Lib.hid (Rx.out.below b)
    clear b
    go_upto_if 80 with fail
    go_cut [] (fun wx => Below w.heap.size w wx)
    case first =>
      rcases KT3.out with ⟨hk0, ys, zs, a0, a1, a2, hF⟩ | hk0
      · have HF := Lib.hid hF
        clear hF
        subst hk0
        have hzl : ¬ (xx.length : Int) < (zs.length : Int) := by have := HF.out.le; omega
        have hzm : zs.length ≤ 1048576 := by have := HF.out.le; omega
        have hxm : xx.length ≤ 1048576 := by omega
        go_wp2_with fail
        refine (HF.out.parse _ HE.out).mono ?_
        rintro e w6 ⟨v, rfl, o, b⟩
        obtain ⟨Ap, cp, hv, r⟩ := o.rd
        subst hv
        have HB := Lib.hid (HB.out.trans (b.mono HB.out.size))
        have HC := Lib.hid (HC.out.below b)
        have HE := Lib.hid (HE.out.below b)
        have Rx := Lib.hid (Rx.out.below b)
        have Rp := Lib.hid r
        clear r o b
        go_wp2_with fail
        refine (HF.out.inv1 Ax cx _ Rx.out).mono ?_
        rintro e w7 ⟨v, rfl, o, b⟩
        obtain ⟨Ay, cy, hv, r⟩ := o.rd
        subst hv
        have HB := Lib.hid (HB.out.trans (b.mono HB.out.size))
        have HC := Lib.hid (HC.out.below b)
        have HE := Lib.hid (HE.out.below b)
        have Rx := Lib.hid (Rx.out.below b)
        have Rp := Lib.hid (Rp.out.below b)
        have Ry := Lib.hid r
        clear r o b
        go_wp2_with fail
        refine (HF.out.inv2 Ay cy _ Ry.out).mono ?_
        rintro e w8 ⟨v, rfl, o, b⟩
        obtain ⟨Aq, cq, hv, r⟩ := o.rd
        subst hv
        have HB := Lib.hid (HB.out.trans (b.mono HB.out.size))
        have HC := Lib.hid (HC.out.below b)
        have HE := Lib.hid (HE.out.below b)
        have Rx := Lib.hid (Rx.out.below b)
        have Rp := Lib.hid (Rp.out.below b)
        have Ry := Lib.hid (Ry.out.below b)
        have Rq := Lib.hid r
        clear r o b
        go_wp2_with fail
        refine (pulses5_same Ap Ax cp cx xx _ hxm Rp.out Rx.out).mono ?_
        rintro e w9 ⟨rfl, b⟩
        have HB := Lib.hid (HB.out.trans (b.mono HB.out.size))
        have HC := Lib.hid (HC.out.below b)
        have HE := Lib.hid (HE.out.below b)
        have Rx := Lib.hid (Rx.out.below b)
        have Rp := Lib.hid (Rp.out.below b)
        have Ry := Lib.hid (Ry.out.below b)
        have Rq := Lib.hid (Rq.out.below b)
        clear b
        go_wp2_with fail
        refine (pulses5_same Aq Ax cq cx xx _ hxm Rq.out Rx.out).mono ?_
        rintro e w10 ⟨rfl, b⟩
        have HB := Lib.hid (HB.out.trans (b.mono HB.out.size))
        have HC := Lib.hid (HC.out.below b)
        have HE := Lib.hid (HE.out.below b)
        have Rx := Lib.hid (Rx.out.below b)
        have Rp := Lib.hid (Rp.out.below b)
        have Ry := Lib.hid (Ry.out.below b)
        have Rq := Lib.hid (Rq.out.below b)
        clear b
        go_wp2_with fail
        refine (HF.out.ang1 Ax cx _ Rx.out).mono ?_
        rintro e w11 ⟨v, rfl, o, b⟩
        obtain ⟨Aa, hv, r⟩ := o.rd
        subst hv
        have HB := Lib.hid (HB.out.trans (b.mono HB.out.size))
        have HC := Lib.hid (HC.out.below b)
        have HE := Lib.hid (HE.out.below b)
        have Rx := Lib.hid (Rx.out.below b)
        have Rp := Lib.hid (Rp.out.below b)
        have Ry := Lib.hid (Ry.out.below b)
        have Rq := Lib.hid (Rq.out.below b)
        have Ra := Lib.hid r
        clear r o b
        go_wp2_with fail
        refine (HF.out.ang2 Ay cy _ Ry.out).mono ?_
        rintro e w12 ⟨v, rfl, o, b⟩
        obtain ⟨Ab, hv, r⟩ := o.rd
        subst hv
        have HB := Lib.hid (HB.out.trans (b.mono HB.out.size))
        have HC := Lib.hid (HC.out.below b)
        have HE := Lib.hid (HE.out.below b)
        have Rx := Lib.hid (Rx.out.below b)
        have Rp := Lib.hid (Rp.out.below b)
        have Ry := Lib.hid (Ry.out.below b)
        have Rq := Lib.hid (Rq.out.below b)
        have Ra := Lib.hid (Ra.out.below b)
        have Rb := Lib.hid r
        clear r o b
        go_wp2_with fail
        refine (HF.out.sh1 Ax cx _ Rx.out).mono ?_
        rintro e w13 ⟨v, rfl, o, b⟩
        obtain ⟨Az, cz, hv, r⟩ := o.rd
        subst hv
        have HB := Lib.hid (HB.out.trans (b.mono HB.out.size))
        have HC := Lib.hid (HC.out.below b)
        have HE := Lib.hid (HE.out.below b)
        have Rx := Lib.hid (Rx.out.below b)
        have Rp := Lib.hid (Rp.out.below b)
        have Ry := Lib.hid (Ry.out.below b)
        have Rq := Lib.hid (Rq.out.below b)
        have Ra := Lib.hid (Ra.out.below b)
        have Rb := Lib.hid (Rb.out.below b)
        have Rz := Lib.hid r
        clear r o b
        go_wp2_with fail
        refine (HF.out.ang3 Az cz _ Rz.out).mono ?_
        rintro e w14 ⟨v, rfl, o, b⟩
        obtain ⟨Ad, hv, r⟩ := o.rd
        subst hv
        have HB := Lib.hid (HB.out.trans (b.mono HB.out.size))
        have HC := Lib.hid (HC.out.below b)
        have HE := Lib.hid (HE.out.below b)
        have Rx := Lib.hid (Rx.out.below b)
        have Rp := Lib.hid (Rp.out.below b)
        have Ry := Lib.hid (Ry.out.below b)
        have Rq := Lib.hid (Rq.out.below b)
        have Ra := Lib.hid (Ra.out.below b)
        have Rb := Lib.hid (Rb.out.below b)
        have Rz := Lib.hid (Rz.out.below b)
        have Rd := Lib.hid r
        clear r o b
        go_wp2_with fail
        refine (HF.out.sh2 Az cz _ Rz.out).mono ?_
        rintro e w15 ⟨v, rfl, o, b⟩
        obtain ⟨Au, cu, hv, r⟩ := o.rd
        subst hv
        have HB := Lib.hid (HB.out.trans (b.mono HB.out.size))
        have HC := Lib.hid (HC.out.below b)
        have HE := Lib.hid (HE.out.below b)
        have Rx := Lib.hid (Rx.out.below b)
        have Rp := Lib.hid (Rp.out.below b)
        have Ry := Lib.hid (Ry.out.below b)
        have Rq := Lib.hid (Rq.out.below b)
        have Ra := Lib.hid (Ra.out.below b)
        have Rb := Lib.hid (Rb.out.below b)
        have Rz := Lib.hid (Rz.out.below b)
        have Rd := Lib.hid (Rd.out.below b)
        have Ru := Lib.hid r
        clear r o b
        go_wp2_with fail
        refine (likeInts_same Aa Ad _ _ [a0, a1, a2] _ (by simp) Ra.out Rd.out).mono ?_
        rintro e w16 ⟨rfl, b⟩
        have HB := Lib.hid (HB.out.trans (b.mono HB.out.size))
        have HC := Lib.hid (HC.out.below b)
        have HE := Lib.hid (HE.out.below b)
        have Rx := Lib.hid (Rx.out.below b)
        have Rp := Lib.hid (Rp.out.below b)
        have Ry := Lib.hid (Ry.out.below b)
        have Rq := Lib.hid (Rq.out.below b)
        have Ra := Lib.hid (Ra.out.below b)
        have Rb := Lib.hid (Rb.out.below b)
        have Rz := Lib.hid (Rz.out.below b)
        have Rd := Lib.hid (Rd.out.below b)
        have Ru := Lib.hid (Ru.out.below b)
        clear b
        go_wp2_with fail
        refine (pulses5_same Au Az cu cz zs _ hzm Ru.out Rz.out).mono ?_
        rintro e w17 ⟨rfl, b⟩
        have HB := Lib.hid (HB.out.trans (b.mono HB.out.size))
        have HC := Lib.hid (HC.out.below b)
        have HE := Lib.hid (HE.out.below b)
        have Rx := Lib.hid (Rx.out.below b)
        have Rp := Lib.hid (Rp.out.below b)
        have Ry := Lib.hid (Ry.out.below b)
        have Rq := Lib.hid (Rq.out.below b)
        have Ra := Lib.hid (Ra.out.below b)
        have Rb := Lib.hid (Rb.out.below b)
        have Rz := Lib.hid (Rz.out.below b)
        have Rd := Lib.hid (Rd.out.below b)
        have Ru := Lib.hid (Ru.out.below b)
        clear b
        have HBD := Lib.hid HF.out.bd
        go_wp2_with fail
        go_loopw [24] (fun i wr => ∃ k : Nat, k ≤ 3 ∧ i = .int .i64 k ∧ Below w17.heap.size w17 wr) (fun i _ => 3 - (intOf i).toNat)
        case atStart => exact ⟨0, by omega, rfl, Below.refl _ _⟩
        case round =>
          obtain ⟨k, hk, rfl, hb⟩ := hrel
          by_cases hlt : k < 3
          · obtain ⟨x, hx, hy, hx1, hx2⟩ := at_three hlt HBD.out
            have l1 : (k : Int) < 3 := by omega
            obtain ⟨b1, rfl, hbl1, g1⟩ := Ra.out k x hx
            obtain ⟨b2, rfl, hbl2, g2⟩ := Rb.out k (-x) hy
            have f1 := (hb.cell (p := ⟨b1, k, none⟩) hbl1).trans g1
            have f2 := (hb.cell (p := ⟨b2, k, none⟩) hbl2).trans g2
            have HB3 := Lib.hid hb
            clear hb g1 g2 hx hy
            go_wp2
            go_region
            go_wp2
            exact ⟨⟨k + 1, by omega, by go_num, HB3.out.drew⟩, by simp [intOf]; omega⟩
          · have HB3 := Lib.hid (HB.out.trans (hb.mono HB.out.size))
            clear hb
            go_wp2_with fail
            go_meet
            exact HB3.out
      · have hk1 : (k == 0) = false := by simpa using hk0
        go_wp2_with fail
        go_meet
        exact HB.out
    case rest =>
      clear KT1 KT2 KT3 KI1 KI2
      have HB := Lib.hid hcut
      have HC := Lib.hid (HC0.out.below hcut)
      have HE := Lib.hid (HE0.out.below hcut)
      clear hcut
      go_wp2_with fail
      refine (drawShorten_any A n c _ hn HC.out).mono ?_
      rintro e w18 ⟨v, xa, rfl, o, hla, b⟩
      obtain ⟨Aa, ca, hv, r⟩ := o.rd
      subst hv
      have HB := Lib.hid (HB.out.trans (b.mono HB.out.size))
      have HC := Lib.hid (HC.out.below b)
      have HE := Lib.hid (HE.out.below b)
      have Ra := Lib.hid r
      clear r o b
      obtain ⟨ra, ka, hra, q1, q2⟩ := short_facts xa hla
      have Fa1 := Lib.hid q1
      have Fa2 := Lib.hid q2
      clear q1 q2
      go_wp2_with fail
      refine (Fa1.out Aa ca _ Ra.out).mono ?_
      rintro e w19 ⟨v, rfl, o, b⟩
      obtain ⟨As1, cs1, hv, r⟩ := o.rd
      subst hv
      have HB := Lib.hid (HB.out.trans (b.mono HB.out.size))
      have HC := Lib.hid (HC.out.below b)
      have HE := Lib.hid (HE.out.below b)
      have Ra := Lib.hid (Ra.out.below b)
      have Rs1 := Lib.hid r
      clear r o b
      go_wp2_with fail
      refine (Fa2.out Aa ca _ Ra.out).mono ?_
      rintro e w20 ⟨v, rfl, o, b⟩
      obtain ⟨As2, cs2, hv, r⟩ := o.rd
      subst hv
      have HB := Lib.hid (HB.out.trans (b.mono HB.out.size))
      have HC := Lib.hid (HC.out.below b)
      have HE := Lib.hid (HE.out.below b)
      have Ra := Lib.hid (Ra.out.below b)
      have Rs1 := Lib.hid (Rs1.out.below b)
      have Rs2 := Lib.hid r
      clear r o b
      go_wp2_with fail
      refine (drawEcho_any A n c _ hn HC.out).mono ?_
      rintro e w21 ⟨v, xb, rfl, o, hlb, b⟩
      obtain ⟨Ab, cb, hv, r⟩ := o.rd
      subst hv
      have HB := Lib.hid (HB.out.trans (b.mono HB.out.size))
      have HC := Lib.hid (HC.out.below b)
      have HE := Lib.hid (HE.out.below b)
      have Rs1 := Lib.hid (Rs1.out.below b)
      have Rs2 := Lib.hid (Rs2.out.below b)
      have Rb := Lib.hid r
      clear r o b
      obtain ⟨rb, kb, hrb, q1, q2⟩ := echo_facts xb hlb
      have Fb1 := Lib.hid q1
      have Fb2 := Lib.hid q2
      clear q1 q2
      go_wp2_with fail
      refine (Fb1.out Ab cb _ Rb.out).mono ?_
      rintro e w22 ⟨v, rfl, o, b⟩
      obtain ⟨At1, ct1, hv, r⟩ := o.rd
      subst hv
      have HB := Lib.hid (HB.out.trans (b.mono HB.out.size))
      have HC := Lib.hid (HC.out.below b)
      have HE := Lib.hid (HE.out.below b)
      have Rs1 := Lib.hid (Rs1.out.below b)
      have Rs2 := Lib.hid (Rs2.out.below b)
      have Rb := Lib.hid (Rb.out.below b)
      have Rt1 := Lib.hid r
      clear r o b
      go_wp2_with fail
      refine (Fb2.out Ab cb _ Rb.out).mono ?_
      rintro e w23 ⟨v, rfl, o, b⟩
      obtain ⟨At2, ct2, hv, r⟩ := o.rd
      subst hv
      have HB := Lib.hid (HB.out.trans (b.mono HB.out.size))
      have HC := Lib.hid (HC.out.below b)
      have HE := Lib.hid (HE.out.below b)
      have Rs1 := Lib.hid (Rs1.out.below b)
      have Rs2 := Lib.hid (Rs2.out.below b)
      have Rb := Lib.hid (Rb.out.below b)
      have Rt1 := Lib.hid (Rt1.out.below b)
      have Rt2 := Lib.hid r
      clear r o b
      go_wp2_with fail
      refine (pulses5_same As1 As2 cs1 cs2 ra _ hra Rs1.out Rs2.out).mono ?_
      rintro e w24 ⟨rfl, b⟩
      have HB := Lib.hid (HB.out.trans (b.mono HB.out.size))
      have HC := Lib.hid (HC.out.below b)
      have HE := Lib.hid (HE.out.below b)
      have Rs1 := Lib.hid (Rs1.out.below b)
      have Rs2 := Lib.hid (Rs2.out.below b)
      have Rt1 := Lib.hid (Rt1.out.below b)
      have Rt2 := Lib.hid (Rt2.out.below b)
      clear b
      go_wp2_with fail
      refine (pulses5_same At1 At2 ct1 ct2 rb _ hrb Rt1.out Rt2.out).mono ?_
      rintro e w25 ⟨rfl, b⟩
      have HB := Lib.hid (HB.out.trans (b.mono HB.out.size))
      have HC := Lib.hid (HC.out.below b)
      have HE := Lib.hid (HE.out.below b)
      have Rs1 := Lib.hid (Rs1.out.below b)
      have Rs2 := Lib.hid (Rs2.out.below b)
      have Rt1 := Lib.hid (Rt1.out.below b)
      have Rt2 := Lib.hid (Rt2.out.below b)
      clear b
      go_wp2_with fail
      refine (drawInverse_any A n c _ hn HC.out).mono ?_
      rintro e w26 ⟨v, xg, rfl, o, hlg, b⟩
      obtain ⟨Ag, cg, hv, r⟩ := o.rd
      subst hv
      have HB := Lib.hid (HB.out.trans (b.mono HB.out.size))
      have HC := Lib.hid (HC.out.below b)
      have HE := Lib.hid (HE.out.below b)
      have Rg := Lib.hid r
      clear r o b
      obtain ⟨rg, kg, hrg, q1, q2⟩ := inv_facts xg hlg
      have Fg1 := Lib.hid q1
      have Fg2 := Lib.hid q2
      clear q1 q2
      go_wp2_with fail
      refine (Fg1.out Ag cg _ Rg.out).mono ?_
      rintro e w27 ⟨v, rfl, o, b⟩
      obtain ⟨Ai1, ci1, hv, r⟩ := o.rd
      subst hv
      have HB := Lib.hid (HB.out.trans (b.mono HB.out.size))
      have HC := Lib.hid (HC.out.below b)
      have HE := Lib.hid (HE.out.below b)
      have Rg := Lib.hid (Rg.out.below b)
      have Ri1 := Lib.hid r
      clear r o b
      go_wp2_with fail
      refine (Fg2.out Ag cg _ Rg.out).mono ?_
      rintro e w28 ⟨v, rfl, o, b⟩
      obtain ⟨Ai2, ci2, hv, r⟩ := o.rd
      subst hv
      have HB := Lib.hid (HB.out.trans (b.mono HB.out.size))
      have HC := Lib.hid (HC.out.below b)
      have HE := Lib.hid (HE.out.below b)
      have Rg := Lib.hid (Rg.out.below b)
      have Ri1 := Lib.hid (Ri1.out.below b)
      have Ri2 := Lib.hid r
      clear r o b
      go_wp2_with fail
      refine (drawAngles_any A n c _ hn HC.out).mono ?_
      rintro e w29 ⟨v, xh, rfl, o, hlh, b⟩
      obtain ⟨Ah, ch, hv, r⟩ := o.rd
      subst hv
      have HB := Lib.hid (HB.out.trans (b.mono HB.out.size))
      have HC := Lib.hid (HC.out.below b)
      have HE := Lib.hid (HE.out.below b)
      have Ri1 := Lib.hid (Ri1.out.below b)
      have Ri2 := Lib.hid (Ri2.out.below b)
      have Rh := Lib.hid r
      clear r o b
      obtain ⟨rh, kh, hrh, q1, q2⟩ := ang_facts xh hlh
      have Fh1 := Lib.hid q1
      have Fh2 := Lib.hid q2
      clear q1 q2
      go_wp2_with fail
      refine (Fh1.out Ah ch _ Rh.out).mono ?_
      rintro e w30 ⟨v, rfl, o, b⟩
      obtain ⟨Aj1, hv, r⟩ := o.rd
      subst hv
      have HB := Lib.hid (HB.out.trans (b.mono HB.out.size))
      have HC := Lib.hid (HC.out.below b)
      have HE := Lib.hid (HE.out.below b)
      have Ri1 := Lib.hid (Ri1.out.below b)
      have Ri2 := Lib.hid (Ri2.out.below b)
      have Rh := Lib.hid (Rh.out.below b)
      have Rj1 := Lib.hid r
      clear r o b
      go_wp2_with fail
      refine (Fh2.out Ah ch _ Rh.out).mono ?_
      rintro e w31 ⟨v, rfl, o, b⟩
      obtain ⟨Aj2, hv, r⟩ := o.rd
      subst hv
      have HB := Lib.hid (HB.out.trans (b.mono HB.out.size))
      have HC := Lib.hid (HC.out.below b)
      have HE := Lib.hid (HE.out.below b)
      have Ri1 := Lib.hid (Ri1.out.below b)
      have Ri2 := Lib.hid (Ri2.out.below b)
      have Rh := Lib.hid (Rh.out.below b)
      have Rj1 := Lib.hid (Rj1.out.below b)
      have Rj2 := Lib.hid r
      clear r o b
      go_wp2_with fail
      refine (drawParse_any A n c _ hn HC.out).mono ?_
      rintro e w32 ⟨lS, rfl, hlS, b⟩
      have HB := Lib.hid (HB.out.trans (b.mono HB.out.size))
      have HC := Lib.hid (HC.out.below b)
      have HE := Lib.hid (HE.out.below b)
      have Ri1 := Lib.hid (Ri1.out.below b)
      have Ri2 := Lib.hid (Ri2.out.below b)
      have Rj1 := Lib.hid (Rj1.out.below b)
      have Rj2 := Lib.hid (Rj2.out.below b)
      clear b
      obtain ⟨rp, kp, hrp, q1, q2⟩ := parse_facts lS hlS
      have FP1 := Lib.hid q1
      have FP2 := Lib.hid q2
      clear q1 q2 hlS
      generalize (⟨lS.toArray⟩ : ByteArray) = SS at FP1 FP2 ⊢
      go_wp2_with fail
      refine (FP1.out _ HE.out).mono ?_
      rintro e w33 ⟨v, rfl, o, b⟩
      obtain ⟨Am1, cm1, hv, r⟩ := o.rd
      subst hv
      have HB := Lib.hid (HB.out.trans (b.mono HB.out.size))
      have HC := Lib.hid (HC.out.below b)
      have HE := Lib.hid (HE.out.below b)
      have Ri1 := Lib.hid (Ri1.out.below b)
      have Ri2 := Lib.hid (Ri2.out.below b)
      have Rj1 := Lib.hid (Rj1.out.below b)
      have Rj2 := Lib.hid (Rj2.out.below b)
      have Rm1 := Lib.hid r
      clear r o b
      go_wp2_with fail
      refine (FP2.out _).mono ?_
      rintro e w34 ⟨v, rfl, o, b⟩
      obtain ⟨Am2, cm2, hv, r⟩ := o.rd
      subst hv
      have HB := Lib.hid (HB.out.trans (b.mono HB.out.size))
      have HC := Lib.hid (HC.out.below b)
      have HE := Lib.hid (HE.out.below b)
      have Ri1 := Lib.hid (Ri1.out.below b)
      have Ri2 := Lib.hid (Ri2.out.below b)
      have Rj1 := Lib.hid (Rj1.out.below b)
      have Rj2 := Lib.hid (Rj2.out.below b)
      have Rm1 := Lib.hid (Rm1.out.below b)
      have Rm2 := Lib.hid r
      clear r o b
      go_wp2_with fail
      refine (pulses5_same Ai1 Ai2 ci1 ci2 rg _ hrg Ri1.out Ri2.out).mono ?_
      rintro e w35 ⟨rfl, b⟩
      have HB := Lib.hid (HB.out.trans (b.mono HB.out.size))
      have HC := Lib.hid (HC.out.below b)
      have HE := Lib.hid (HE.out.below b)
      have Ri1 := Lib.hid (Ri1.out.below b)
      have Ri2 := Lib.hid (Ri2.out.below b)
      have Rj1 := Lib.hid (Rj1.out.below b)
      have Rj2 := Lib.hid (Rj2.out.below b)
      have Rm1 := Lib.hid (Rm1.out.below b)
      have Rm2 := Lib.hid (Rm2.out.below b)
      clear b
      go_wp2_with fail
      refine (likeInts_same Aj1 Aj2 _ _ rh _ hrh Rj1.out Rj2.out).mono ?_
      rintro e w36 ⟨rfl, b⟩
      have HB := Lib.hid (HB.out.trans (b.mono HB.out.size))
      have HC := Lib.hid (HC.out.below b)
      have HE := Lib.hid (HE.out.below b)
      have Ri1 := Lib.hid (Ri1.out.below b)
      have Ri2 := Lib.hid (Ri2.out.below b)
      have Rj1 := Lib.hid (Rj1.out.below b)
      have Rj2 := Lib.hid (Rj2.out.below b)
      have Rm1 := Lib.hid (Rm1.out.below b)
      have Rm2 := Lib.hid (Rm2.out.below b)
      clear b
      go_wp2_with fail
      refine (pulses5_same Am1 Am2 cm1 cm2 rp _ hrp Rm1.out Rm2.out).mono ?_
      rintro e w37 ⟨rfl, b⟩
      have HB := Lib.hid (HB.out.trans (b.mono HB.out.size))
      have HC := Lib.hid (HC.out.below b)
      have HE := Lib.hid (HE.out.below b)
      have Ri1 := Lib.hid (Ri1.out.below b)
      have Ri2 := Lib.hid (Ri2.out.below b)
      have Rj1 := Lib.hid (Rj1.out.below b)
      have Rj2 := Lib.hid (Rj2.out.below b)
      have Rm1 := Lib.hid (Rm1.out.below b)
      have Rm2 := Lib.hid (Rm2.out.below b)
      clear b
      go_wp2
      go_ret
      exact ⟨rfl, HB.out⟩
  · have hbig : decide ((4096 : Int) < (n : Int)) = true := by simp; omega
    go_enter Tryz.func3, Tryz.ntmps3
    go_wp2_with fail
    refine (big_any A n c w).mono ?_
    rintro e w' ⟨rfl, rfl⟩
    rw [hbig]
    go_wp2
    go_ret
    exact ⟨rfl, Below.refl _ _⟩
end Go.Proofs.YtdijnjigamkhjaaGreatDoor
