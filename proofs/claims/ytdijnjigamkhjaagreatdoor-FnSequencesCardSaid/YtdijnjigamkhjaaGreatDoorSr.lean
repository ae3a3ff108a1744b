/- slices.Replace of two pulses by at most one. -/
import Derived.Test.YtdijnjigamkhjaaGreatDoorSp
import Derived.Lib.SliceRun
namespace Go.Proofs.YtdijnjigamkhjaaGreatDoor
open Go.RowKit

theorem rd_nil {w : World} {ys : List Pu} (hy : Rd w none ys) : ys = [] := by
  cases ys with
  | nil => rfl
  | cons p r => obtain ⟨_, _, e, _⟩ := hy 0 p rfl; cases e
theorem over_nil (L : List Pu) (d : Nat) : over L d [] = L := by simp [over]

theorem zero38 (w : World) : (zeroValue 43).run Tryz.prog w = .ok (.agg #[.int .i64 0, .int .i64 0, .bool false]) w := by kernel_rfl

theorem run_first_p (w : World) (A : Option Addr) (ys : List Pu) (c : Nat) (hy : Rd w A ys) : (Builtin.firstCells 3 ys.length (.slice A ys.length c)).run Tryz.prog w = .ok (flat ys).toArray w := by
  rcases A with _ | ad
  · obtain rfl := rd_nil hy
    rfl
  · have := run_loadCells_list (P := Tryz.prog) w ad (flat ys) (rd_cells hy)
    rw [flat_length] at this
    exact this

theorem run_copy_p (w : World) (ty : TypeId) (G d nd nc : Nat) (L ys : List Pu) (more : List Value) (A : Option Addr) (c : Nat) (hr : Row w G L more) (hy : Rd w A ys) (hn : ys.length ≤ nd) (hd : d + ys.length ≤ L.length) :
    ∃ w', (Builtin.copy_ #[24, 24] ty #[.slice (some ⟨G, d * 3, none⟩) nd nc, .slice A ys.length c]).run Tryz.prog w = .ok (goInt ys.length) w' ∧ Row w' G (over L d ys) more ∧ w.grownBy w' (some G) := by
  obtain ⟨w', hs, h1, h2⟩ := run_store_p w G d L ys more hr hd
  refine ⟨w', ?_, h1, h2⟩
  have hm : Nat.min ys.length nd = ys.length := Nat.min_eq_left hn
  have hf := run_first_p w A ys c hy
  simp [Builtin.copy_, run_underlying Tryz.underlying24, Builtin.lenOf, hm, hf, hs]

theorem run_clear_p (w : World) (ty : TypeId) (G d n c : Nat) (L : List Pu) (more : List Value) (hr : Row w G L more) (h0 : 0 < n) (hd : d + n ≤ L.length) :
    ∃ w', (Builtin.clear_ #[24] ty #[.slice (some ⟨G, d * 3, none⟩) n c]).run Tryz.prog w = .ok (.tuple #[]) w' ∧ Row w' G (over L d (List.replicate n Pu.zero)) more ∧ w.grownBy w' (some G) := by
  obtain ⟨w', hs, h1, h2⟩ := run_store_p w G d L (List.replicate n Pu.zero) more hr (by simpa using hd)
  refine ⟨w', ?_, h1, h2⟩
  have hz : (Builtin.zeroCells (Value.agg #[Value.int .i64 0, .int .i64 0, .bool false]).cells n).toList = flat (List.replicate n Pu.zero) := by
    have := flat_zeros n
    have e : Builtin.zeroCells (Value.agg #[Value.int .i64 0, .int .i64 0, .bool false]).cells n = madeCells #[Value.int .i64 0, .int .i64 0, .bool false] (n * 3) := rfl
    rw [e, this]
  obtain ⟨m, rfl⟩ : ∃ m, n = m + 1 := ⟨n - 1, by omega⟩
  simp [Builtin.clear_, run_underlying Tryz.underlying24, hz, hs]

theorem run_append_room_p (w : World) (ty : TypeId) (G i cap : Nat) (L ys : List Pu) (more : List Value) (A : Option Addr) (c : Nat) (hr : Row w G L more) (hy : Rd w A ys) (hc : i + ys.length ≤ cap) (hd : i + ys.length ≤ L.length) :
    ∃ w', (Builtin.append_ #[24, 24] ty #[.slice (some ⟨G, 0, none⟩) i cap, .slice A ys.length c]).run Tryz.prog w = .ok (.slice (some ⟨G, 0, none⟩) (i + ys.length) cap) w' ∧ Row w' G (over L i ys) more ∧ w.grownBy w' (some G) := by
  obtain ⟨w', hs, h1, h2⟩ := run_store_p w G i L ys more hr hd
  refine ⟨w', ?_, h1, h2⟩
  have hf := run_first_p w A ys c hy
  have ha : (⟨G, 0, none⟩ : Addr).add (i * 3) = ⟨G, i * 3, none⟩ := by unfold Addr.add; split <;> simp_all
  simp [Builtin.append_, run_underlying Tryz.underlying24, Builtin.lenOf, hc, hf, ha, hs]

theorem wpList_copy_p {ops : Array Oper} {rest : List Oper} {o : Oper} {a : Act} {Q : Exit → Act → World → Prop} {w : World} (hgd : o.guard = none) (s x : Operand)
    (ho : o.op = .call { callee := .builtin .copy, args := #[s, x], argTypes := #[24, 24] }) (G off d nd nc : Nat) (L ys : List Pu) (more : List Value) (A : Option Addr) (n c : Nat) (hoff : off = d * 3) (hn0 : n = ys.length)
    (hs : a.eval s = .slice (some ⟨G, off, none⟩) nd nc) (hx : a.eval x = .slice A n c) (hr : Row w G L more) (hy : Rd w A ys) (hn : ys.length ≤ nd) (hd : d + ys.length ≤ L.length)
    (h : ∀ w', Row w' G (over L d ys) more → w.grownBy w' (some G) → wpList Tryz.prog ops Q rest (a.put o.dst (goInt ys.length)) w') : wpList Tryz.prog ops Q (o :: rest) a w := by
  subst hoff hn0
  refine wpList_plain hgd fun K hK => ?_
  obtain ⟨w', hrun, h1, h2⟩ := run_copy_p w o.type G d nd nc L ys more A c hr hy hn hd
  unfold Oper.wp execOp
  simp only [ho, resolve, invoke, builtin, Sem.run_bind, Sem.run_pure, Result.andThen_ok, List.map_toArray, List.map_cons, List.map_nil, hs, hx, hrun]
  exact hK _ _ (h w' h1 h2)

theorem wpList_clear_p {ops : Array Oper} {rest : List Oper} {o : Oper} {a : Act} {Q : Exit → Act → World → Prop} {w : World} (hgd : o.guard = none) (s : Operand)
    (ho : o.op = .call { callee := .builtin .clear, args := #[s], argTypes := #[24] }) (G off d n c : Nat) (L : List Pu) (more : List Value) (hoff : off = d * 3)
    (hs : a.eval s = .slice (some ⟨G, off, none⟩) n c) (hr : Row w G L more) (h0 : 0 < n) (hd : d + n ≤ L.length)
    (h : ∀ w', Row w' G (over L d (List.replicate n Pu.zero)) more → w.grownBy w' (some G) → wpList Tryz.prog ops Q rest (a.put o.dst (.tuple #[])) w') : wpList Tryz.prog ops Q (o :: rest) a w := by
  subst hoff
  refine wpList_plain hgd fun K hK => ?_
  obtain ⟨w', hrun, h1, h2⟩ := run_clear_p w o.type G d n c L more hr h0 hd
  unfold Oper.wp execOp
  simp only [ho, resolve, invoke, builtin, Sem.run_bind, Sem.run_pure, Result.andThen_ok, List.map_toArray, List.map_cons, List.map_nil, hs, hrun]
  exact hK _ _ (h w' h1 h2)

theorem wpList_append_room_p {ops : Array Oper} {rest : List Oper} {o : Oper} {a : Act} {Q : Exit → Act → World → Prop} {w : World} (hgd : o.guard = none) (s x : Operand)
    (ho : o.op = .call { callee := .builtin .append, args := #[s, x], argTypes := #[24, 24] }) (G i cap : Nat) (L ys : List Pu) (more : List Value) (A : Option Addr) (n c : Nat) (hn0 : n = ys.length)
    (hs : a.eval s = .slice (some ⟨G, 0, none⟩) i cap) (hx : a.eval x = .slice A n c) (hr : Row w G L more) (hy : Rd w A ys) (hc : i + ys.length ≤ cap) (hd : i + ys.length ≤ L.length)
    (h : ∀ w', Row w' G (over L i ys) more → w.grownBy w' (some G) → wpList Tryz.prog ops Q rest (a.put o.dst (.slice (some ⟨G, 0, none⟩) (i + ys.length) cap)) w') : wpList Tryz.prog ops Q (o :: rest) a w := by
  subst hn0
  refine wpList_plain hgd fun K hK => ?_
  obtain ⟨w', hrun, h1, h2⟩ := run_append_room_p w o.type G i cap L ys more A c hr hy hc hd
  unfold Oper.wp execOp
  simp only [ho, resolve, invoke, builtin, Sem.run_bind, Sem.run_pure, Result.andThen_ok, List.map_toArray, List.map_cons, List.map_nil, hs, hx, hrun]
  exact hK _ _ (h w' h1 h2)

theorem row_shrink {w : World} {G : Nat} {xs ys : List Pu} {more : List Value} (h : Row w G (xs ++ ys) more) : Row w G xs (flat ys ++ more) := by
  unfold Row at h ⊢
  rw [h, flat_append, List.append_assoc]
theorem rd_row {w : World} {G : Nat} {xs : List Pu} {more : List Value} (h : Row w G xs more) (d : Nat) : Rd w (some ⟨G, d * 3, none⟩) (xs.drop d) := by
  intro k p hk
  rw [List.getElem?_drop] at hk
  obtain ⟨c0, c1, c2⟩ := h.cells hk
  have e : d * 3 + k * 3 = (d + k) * 3 := by omega
  exact ⟨G, d * 3, rfl, h.lt, by rw [e]; exact c0, by rw [e]; exact c1, by rw [e]; exact c2⟩

/-- Two pulses at i give way to vs. -/
def repl (xs : List Pu) (i : Nat) (vs : List Pu) : List Pu := xs.take i ++ vs ++ xs.drop (i + 2)

set_option maxHeartbeats 1000000 in
set_option maxRecDepth 100000 in
theorem replace_end (G cap : Nat) (xs vs : List Pu) (more : List Value) (A : Option Addr) (c n i m : Nat) (w : World) (hn : xs.length = n) (hi : i + 2 = n) (hm : vs.length = m) (hm1 : m ≤ 1) (hn1 : n ≤ 1000) (hcap : n ≤ cap) (hcm : cap ≤ maxLen)
    (hr : Row w G xs more) (hv : Rd w A vs) :
    Calls Tryz.prog 39 #[.slice (some ⟨G, 0, none⟩) n cap, .int .i64 i, .int .i64 n, .slice A m c] w fun e w' =>
      e = .returned (.slice (some ⟨G, 0, none⟩) (i + m) cap) ∧ (∃ more', Row w' G (repl xs i vs) more' ∧ more'.length = more.length + (2 - m) * 3) ∧ w.grownBy w' (some G) := by
  have HN := Lib.hid hn; clear hn
  have HR := Lib.hid hr; clear hr
  have HV := Lib.hid hv; clear hv
  have HM := Lib.hid hm; clear hm
  have HCM := Lib.hid hcm; clear hcm
  have hin : i < n := by omega
  have hic : i < cap := by omega
  have hne : ((i : Int) == (n : Int)) = false := by simp; omega
  go_enter Tryz.func39, Tryz.ntmps39
  go_wp2_with (at_builtin; refine wpList_append_room_p rfl _ _ rfl G i cap xs vs more A m c HM.out.symm rfl rfl HR.out HV.out ?c1 ?c2 ?c3)
  case c1 => rw [HM.out]; omega
  case c2 => rw [HM.out, HN.out]; omega
  case c3 =>
    intro w2 hr2 g2
    rw [HM.out]
    obtain ⟨k, hk⟩ : ∃ k, i + m = k := ⟨_, rfl⟩
    rw [hk]
    have HK := Lib.hid hk
    have hkn : k < n := by omega
    have hkc : k < cap := by omega
    have hkn' : (k : Int) < (n : Int) := by omega
    have hne2 : (n : Int) - (k : Int) = ((n - k : Nat) : Int) := by omega
    clear hk
    have HR2 := Lib.hid hr2; clear hr2
    obtain ⟨w3, hrun, hr3, g3⟩ := run_clear_p w2 0 G k (n - k) (cap - k) (over xs i vs) more HR2.out (by omega) (by rw [over_length _ _ _ (by rw [HM.out, HN.out]; omega), HN.out]; omega)
    have HRUN := Lib.hid hrun; clear hrun
    have HR3 := Lib.hid hr3; clear hr3
    go_wp2
    rw [HRUN.out]
    go_wp2
    go_ret
    have hov : over (over xs i vs) k (List.replicate (n - k) Pu.zero) = repl xs i vs ++ List.replicate (n - k) Pu.zero := by
      have h1 : (over xs i vs).take k = repl xs i vs := by
        unfold over repl
        rw [List.drop_eq_nil_of_le (show xs.length ≤ i + 2 by rw [HN.out]; omega), List.append_nil, List.take_append_of_le_length (by simp [HN.out, HM.out]; have := HK.out; omega), List.take_of_length_le (by simp [HN.out, HM.out]; have := HK.out; omega)]
      have h2 : (over xs i vs).drop (k + (n - k)) = [] := List.drop_eq_nil_of_le (by rw [over_length _ _ _ (by rw [HM.out, HN.out]; omega), HN.out]; omega)
      rw [over, h1, List.length_replicate, h2, List.append_nil]
    have h3 := HR3.out
    rw [hov] at h3
    have hK := HK.out
    refine ⟨by rw [hK]; rfl, ⟨_, row_shrink h3, ?_⟩, g2.trans g3⟩
    rw [List.length_append, flat_length, List.length_replicate]
    omega

theorem over_repl {xs vs : List Pu} {n i j m d t : Nat} (hn : xs.length = n) (hm : vs.length = m) (hj : i + 2 = j) (hd : i + m = d) (ht : i + m + (n - j) = t) (hi : j < n) (hdj : d ≤ j) :
    over (over (over xs i vs) d ((over xs i vs).drop j)) t (List.replicate (n - t) Pu.zero) = repl xs i vs ++ List.replicate (n - t) Pu.zero := by
  have hA : (xs.take i ++ vs).length = d := by simp; omega
  have h1 : (over xs i vs).take d = xs.take i ++ vs := by
    unfold over
    rw [List.take_append_of_le_length (by omega), List.take_of_length_le (by omega)]
  have h2 : (over xs i vs).drop j = xs.drop j := by
    unfold over
    rw [List.drop_append, List.drop_eq_nil_of_le (by omega), List.nil_append, List.drop_drop, hA, hm]
    congr 1
    omega
  have h3 : (over (over xs i vs) d ((over xs i vs).drop j)).take t = repl xs i vs := by
    rw [over, h1, h2, List.take_append_of_le_length (by simp; omega), List.take_of_length_le (by simp; omega)]
    unfold repl
    rw [hj]
  have hl0 : (over xs i vs).length = n := by rw [over_length _ _ _ (by omega)]; exact hn
  have h4 : (over (over xs i vs) d ((over xs i vs).drop j)).drop (t + (n - t)) = [] := by
    refine List.drop_eq_nil_of_le ?_
    rw [over_length _ _ _ (by rw [List.length_drop, hl0]; omega), hl0]
    omega
  rw [over, h3, List.length_replicate, h4, List.append_nil]

set_option maxRecDepth 100000 in
set_option maxHeartbeats 1000000 in
theorem replace_mid (G cap : Nat) (xs vs : List Pu) (more : List Value) (A : Option Addr) (c n i j m : Nat) (w : World) (hn : xs.length = n) (hj : i + 2 = j) (hi : j < n) (hm : vs.length = m) (hm1 : m ≤ 1) (hn1 : n ≤ 1000) (hcap : n ≤ cap) (hcm : cap ≤ maxLen)
    (hr : Row w G xs more) (hv : Rd w A vs) :
    Calls Tryz.prog 39 #[.slice (some ⟨G, 0, none⟩) n cap, .int .i64 i, .int .i64 j, .slice A m c] w fun e w' =>
      e = .returned (.slice (some ⟨G, 0, none⟩) (n - 2 + m) cap) ∧ (∃ more', Row w' G (repl xs i vs) more' ∧ more'.length = more.length + (2 - m) * 3) ∧ w.grownBy w' (some G) := by
  have HN := Lib.hid hn; clear hn
  have HR := Lib.hid hr; clear hr
  have HV := Lib.hid hv; clear hv
  have HM := Lib.hid hm; clear hm
  have HCM := Lib.hid hcm; clear hcm
  have HJ := Lib.hid hj
  have hij : i ≤ j := by omega
  have hjc : j < cap := by omega
  have hin : i < n := by omega
  have hic : i < cap := by omega
  have hne : ((i : Int) == (j : Int)) = false := by simp; omega
  have hne2 : ((j : Int) == (n : Int)) = false := by simp; omega
  clear hj
  go_enter Tryz.func39, Tryz.ntmps39
  go_wp2
  go_quiet (fail)
  obtain ⟨t, ht⟩ : ∃ t, i + m + (n - j) = t := ⟨_, rfl⟩
  have hJ := HJ.out
  have e : (i : Int) + m + ((n - j : Nat) : Int) = (t : Int) := by omega
  have htc : t ≤ cap := by omega
  have htn : t < n := by omega
  have htcI : ¬ ((cap : Int) < (t : Int)) := by omega
  have htcap : t < cap := by omega
  obtain ⟨d, hd⟩ : ∃ d, i + m = d := ⟨_, rfl⟩
  have e2 : (i : Int) + m = (d : Int) := by omega
  have hdj : (d : Int) ≤ (j : Int) := by omega
  have hdt : d ≤ t := by omega
  have hit : i ≤ t := by omega
  have hdc : d < cap := by omega
  have HT := Lib.hid ht
  have HD := Lib.hid hd
  have HE2 := Lib.hid e2
  have HE := Lib.hid e
  clear ht hd e2 e hJ
  rw [HE.out]
  have hle : (i : Int) + (m : Int) ≤ (j : Int) := by have := HE2.out; omega
  have hR0 : Row (w.drewN nq) G xs more := HR.out
  have hV0 : Rd (w.drewN nq) A vs := HV.out
  obtain ⟨w2, hrun, hr2, g2⟩ := run_copy_p (w.drewN nq) 3 G i (t - i) (cap - i) xs vs more A c hR0 hV0 (by have := HM.out; have := HT.out; have := HJ.out; omega) (by have := HM.out; have := HN.out; omega)
  rw [HM.out] at hrun
  have hg2 : w.grownBy w2 (some G) := ⟨g2.os, g2.tape, g2.output, g2.size, g2.block⟩
  have HRUN := Lib.hid hrun
  have HR2 := Lib.hid hr2
  clear hrun hr2 g2 hR0 hV0
  go_wp2
  rw [HRUN.out]
  go_wp2
  have hw : IntKind.i64.wrap ((i : Int) + (m : Int)) = (d : Int) := by rw [HE2.out, IntKind.wrap_i64]; omega
  have hd0 : (0 : Int) ≤ (d : Int) := by omega
  have hdn : ((d : Int)).toNat = d := by omega
  have hdtI : (d : Int) ≤ (t : Int) := by omega
  have hjn : j ≤ n := by omega
  go_still_tail 9, (by kernel_rfl)
  change wpList _ _ _ _ _ w2.drew
  clear hw hd0 hdn
  have hL1 : (over xs i vs).length = n := by rw [over_length _ _ _ (by have := HM.out; have := HN.out; have := HD.out; omega)]; exact HN.out
  have hdl : ((over xs i vs).drop j).length = n - j := by rw [List.length_drop, hL1]
  have hR2 : Row w2.drew G (over xs i vs) more := HR2.out
  obtain ⟨w3, hrun3, hr3, g3⟩ := run_copy_p w2.drew 3 G d (t - d) (cap - d) (over xs i vs) ((over xs i vs).drop j) more (some ⟨G, j * 3, none⟩) (cap - j) hR2 (rd_row hR2 j) (by rw [hdl]; have := HT.out; have := HD.out; omega) (by rw [hdl, hL1]; have := HT.out; have := HD.out; omega)
  rw [hdl] at hrun3
  have hg3 : w.grownBy w3 (some G) := hg2.trans ⟨g3.os, g3.tape, g3.output, g3.size, g3.block⟩
  have HL1 := Lib.hid hL1
  have HDL := Lib.hid hdl
  have HRUN3 := Lib.hid hrun3
  have HR3 := Lib.hid hr3
  clear hL1 hdl hrun3 hr3 g3 hR2 hg2
  go_wp2
  rw [HRUN3.out]
  have htnI : (t : Int) < (n : Int) := by omega
  have hL2 : (over (over xs i vs) d ((over xs i vs).drop j)).length = n := by rw [over_length _ _ _ (by rw [HDL.out, HL1.out]; have := HT.out; have := HD.out; omega)]; exact HL1.out
  obtain ⟨w4, hrun4, hr4, g4⟩ := run_clear_p w3 0 G t (n - t) (cap - t) (over (over xs i vs) d ((over xs i vs).drop j)) more HR3.out (by omega) (by rw [hL2]; omega)
  have hg4 : w.grownBy w4 (some G) := hg3.trans g4
  have HL2 := Lib.hid hL2
  have HRUN4 := Lib.hid hrun4
  have HR4 := Lib.hid hr4
  clear hL2 hrun4 hr4 g4 hg3
  go_wp2
  rw [HRUN4.out]
  go_wp2
  go_ret
  have h4 := HR4.out
  rw [over_repl HN.out HM.out HJ.out HD.out HT.out hi (by have := hle; have := HE2.out; omega)] at h4
  have hT := HT.out
  have hJ := HJ.out
  have et : n - 2 + m = t := by omega
  refine ⟨by rw [et]; rfl, ⟨_, row_shrink h4, ?_⟩, hg4⟩
  rw [List.length_append, flat_length, List.length_replicate]
  omega

theorem replace_any (base : Nat) (v : Value) (xs vs : List Pu) (A : Option Addr) (c i j n m : Nat) (w : World) (hn : xs.length = n) (hm : vs.length = m) (hj : i + 2 = j) (hjn : j ≤ n) (hm1 : m ≤ 1) (hn1 : n ≤ 1000) (ho : Own w base v xs) (hv : Rd w A vs) :
    Calls Tryz.prog 39 #[v, .int .i64 i, .int .i64 j, .slice A m c] w fun e w' => ∃ v', e = .returned v' ∧ Own w' base v' (repl xs i vs) ∧ w.grownBy w' v.ownBlock := by
  have hl : (repl xs i vs).length = n - 2 + m := by unfold repl; simp; omega
  rcases ho with ⟨rfl, rfl⟩ | ⟨G, cap, more, rfl, hG, hr, h1, h2, h3⟩
  · simp at hn; omega
  · rw [hn] at h1 h3 ⊢
    by_cases he : j = n
    · subst he
      refine (replace_end G cap xs vs more A c j i m w hn hj hm hm1 hn1 h1 h2 hr hv).mono fun e w' ⟨he, ⟨more', hr', hl'⟩, hg⟩ => ⟨_, he, .inr ⟨G, cap, more', ?_, hG, hr', by omega, h2, by omega⟩, hg⟩
      rw [hl, show i + m = j - 2 + m by omega]
    · refine (replace_mid G cap xs vs more A c n i j m w hn hj (by omega) hm hm1 hn1 h1 h2 hr hv).mono fun e w' ⟨he, ⟨more', hr', hl'⟩, hg⟩ => ⟨_, he, .inr ⟨G, cap, more', ?_, hG, hr', by omega, h2, by omega⟩, hg⟩
      rw [hl]
end Go.Proofs.YtdijnjigamkhjaaGreatDoor
