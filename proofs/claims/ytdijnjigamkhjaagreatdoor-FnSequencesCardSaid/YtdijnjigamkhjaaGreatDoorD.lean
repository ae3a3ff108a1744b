/- append and the inverse of a list of pulses. -/
import Derived.Test.YtdijnjigamkhjaaGreatDoorC
import Derived.BigRegion
import Derived.Laws.Slices
import Derived.Deep.RegionLaw
namespace Go.Proofs.YtdijnjigamkhjaaGreatDoor
open Go.RowKit

section
variable {P : Program} (w : World)
theorem run_append_of_nil (base : Nat) (t ty e : TypeId) (i : TypeInfo) (size : Nat) (ht : P.underlying t = some (.slice e)) (hi : P.info? e = some i)
    (v : Value) (n : Nat) (xs : List Value) (hown : w.ownsRow base e size v n xs) (c : Nat) : (Builtin.append_ #[t, t] ty #[v, .slice none 0 c]).run P w = .ok v w := by
  rcases hown.2 with ⟨rfl, rfl⟩ | ⟨g, cap, cur, rfl, _, _, hnc, _⟩
  · simp [Builtin.append_, run_underlying ht, sizeOf, typeInfo, hi, Builtin.lenOf, Builtin.firstCells]
  · simp [Builtin.append_, run_underlying ht, sizeOf, typeInfo, hi, Builtin.lenOf, Builtin.firstCells, hnc, storeCells]
end

theorem Own.base {w : World} {base : Nat} {v : Value} {xs : List Pu} (h : Own w base v xs) (g : Nat) (e : v.ownBlock = some g) : base ≤ g ∧ g < w.heap.size := h.row.lt g e

theorem rd_cells {w : World} {ad : Addr} {ys : List Pu} (hy : Rd w (some ad) ys) : ∀ j u, (flat ys)[j]? = some u → w.cell? (ad.add j) = some u := by
  intro j u hu
  have hl : j < ys.length * 3 := by
    rw [← flat_length]
    rcases Nat.lt_or_ge j (flat ys).length with h | hn
    · exact h
    · rw [List.getElem?_eq_none hn] at hu; cases hu
  have hk : ys[j / 3]? = some (ys[j / 3]'(by omega)) := List.getElem?_eq_getElem (by omega)
  obtain ⟨b, off, e, _, c0, c1, c2⟩ := hy _ _ hk
  obtain ⟨f0, f1, f2⟩ := flat_get _ _ _ hk
  cases e
  have ha : ∀ n, (⟨b, off, none⟩ : Addr).add n = ⟨b, off + n, none⟩ := fun n => by unfold Addr.add; split <;> simp_all
  rw [ha]
  rcases (by omega : j = j / 3 * 3 ∨ j = j / 3 * 3 + 1 ∨ j = j / 3 * 3 + 2) with h | h | h
  · rw [h] at hu ⊢; rw [← hu.symm.trans f0 |>.symm |> Option.some.inj] ; exact c0
  · rw [h] at hu ⊢; rw [← hu.symm.trans f1 |>.symm |> Option.some.inj] ; rw [← Nat.add_assoc]; exact c1
  · rw [h] at hu ⊢; rw [← hu.symm.trans f2 |>.symm |> Option.some.inj] ; rw [← Nat.add_assoc]; exact c2

theorem run_append_p (w : World) (ty : TypeId) (base : Nat) (v : Value) (xs : List Pu) (hown : Own w base v xs) (A : Option Addr) (c : Nat) (ys : List Pu) (hy : Rd w A ys) (hlen : xs.length + ys.length ≤ 10000000) (hbase : base ≤ w.heap.size) :
    ∃ v' w', (Builtin.append_ #[24, 24] ty #[v, .slice A ys.length c]).run Tryz.prog w = .ok v' w' ∧ Own w' base v' (xs ++ ys) ∧ w.grownBy w' v.ownBlock ∧ (v'.ownBlock = v.ownBlock ∨ v'.ownBlock = some w.heap.size) := by
  obtain ⟨i0, hi, hz0, hz1, hz2⟩ := info_parts info43
  rcases A with _ | ad
  · have h0 : ys = [] := by
      cases ys with
      | nil => rfl
      | cons p r => obtain ⟨_, _, e, _⟩ := hy 0 p rfl; cases e
    subst h0
    exact ⟨v, w, run_append_of_nil w base 24 ty 43 i0 3 Tryz.underlying24 hi v _ _ hown.row c, by simpa using hown, World.grownBy.refl w _, .inl rfl⟩
  · obtain ⟨v', w', hrun, h2, h3, _, h5⟩ := run_append_own_at (P := Tryz.prog) w base 24 ty 43 i0 _ 3 24 Tryz.underlying24 hi hz0 hz1 hz2 rfl (by decide) v _ _ hown.row ad ys.length c (flat ys) (flat_length ys) (rd_cells hy) (flat_oneCell ys) (by unfold maxLen; omega) (by omega) hbase
    refine ⟨v', w', hrun, Own.of_row ?_, h3, h5⟩
    rw [flat_append, List.length_append]
    exact h2

theorem wpList_append_p {ops : Array Oper} {rest : List Oper} {o : Oper} {a : Act} {Q : Exit → Act → World → Prop} {w : World} (hgd : o.guard = none) (s x : Operand)
    (ho : o.op = .call { callee := .builtin .append, args := #[s, x], argTypes := #[24, 24] })
    (base : Nat) (v : Value) (xs : List Pu) (hs : a.eval s = v) (hown : Own w base v xs) (A : Option Addr) (c n : Nat) (ys : List Pu) (hn : n = ys.length) (hx : a.eval x = .slice A n c) (hy : Rd w A ys) (hlen : xs.length + ys.length ≤ 10000000) (hbase : base ≤ w.heap.size)
    (h : ∀ v' w', Own w' base v' (xs ++ ys) → w.grownBy w' v.ownBlock → (v'.ownBlock = v.ownBlock ∨ v'.ownBlock = some w.heap.size) → wpList Tryz.prog ops Q rest (a.put o.dst v') w') :
    wpList Tryz.prog ops Q (o :: rest) a w := by
  subst hn
  refine wpList_plain hgd fun K hK => ?_
  obtain ⟨v', w', hrun, h2, h3, h4⟩ := run_append_p w o.type base v xs hown A c ys hy hlen hbase
  unfold Oper.wp execOp
  simp only [ho, resolve, invoke, builtin, Sem.run_bind, Sem.run_pure, Result.andThen_ok, List.map_toArray, List.map_cons, List.map_nil, hs, hx, hrun]
  exact hK _ _ (h v' w' h2 h3 h4)

theorem step_append_p {ops : Array Oper} {o : Oper} {a : Act} {K : Act → World → Prop} {Q : Exit → Act → World → Prop} {E : Prop} {w : World} (hgd : o.guard = none) (s x : Operand)
    (ho : o.op = .call { callee := .builtin .append, args := #[s, x], argTypes := #[24, 24] })
    (base : Nat) (v : Value) (xs : List Pu) (hs : a.eval s = v) (hown : Own w base v xs) (A : Option Addr) (c n : Nat) (ys : List Pu) (hn : n = ys.length) (hx : a.eval x = .slice A n c) (hy : Rd w A ys) (hlen : xs.length + ys.length ≤ 10000000) (hbase : base ≤ w.heap.size)
    (h : ∀ v' w', Own w' base v' (xs ++ ys) → w.grownBy w' v.ownBlock → (v'.ownBlock = v.ownBlock ∨ v'.ownBlock = some w.heap.size) → K (a.put o.dst v') w') :
    if Region.wanted o (yielded ops a.tmps) = true then Oper.wp Tryz.prog o a w K Q else E := by
  subst hn
  have hw : Region.wanted o (yielded ops a.tmps) = true := by simp [Region.wanted, hgd]
  rw [if_pos hw]
  obtain ⟨v', w', hrun, h2, h3, h4⟩ := run_append_p w o.type base v xs hown A c ys hy hlen hbase
  unfold Oper.wp execOp
  simp only [ho, resolve, invoke, builtin, Sem.run_bind, Sem.run_pure, Result.andThen_ok, List.map_toArray, List.map_cons, List.map_nil, hs, hx, hrun]
  exact h v' w' h2 h3 h4

def Pu.flip (p : Pu) : Pu := ⟨p.a, p.h, !p.b⟩
def inv (xs : List Pu) : List Pu := (xs.map Pu.flip).reverse
theorem inv_cons (p : Pu) (xs : List Pu) : inv (p :: xs) = inv xs ++ [p.flip] := by simp [inv]
theorem inv_length (xs : List Pu) : (inv xs).length = xs.length := by simp [inv]
theorem inv_drop (xs : List Pu) (k : Nat) (p : Pu) (hp : xs[k]? = some p) : inv (xs.drop k) = inv (xs.drop (k + 1)) ++ [p.flip] := by
  have hk := Row.k_lt hp
  rw [List.getElem?_eq_getElem hk] at hp
  rw [List.drop_eq_getElem_cons hk, inv_cons]
  simp at hp
  rw [hp]

/-- The call hands back a new list of pulses and a code. -/
def Made2 (ys : List Pu) (code : Int) (w : World) (e : Ending) (w' : World) : Prop := ∃ v, e = .returned (.tuple #[v, .int .i64 code]) ∧ Own w' w.heap.size v ys ∧ Below w.heap.size w w'

theorem rd_one (w : World) (p : Pu) : Rd (w.alloc (.cells #[.int .i64 p.a, .int .i64 p.h, .bool p.b] 43)) (some ⟨w.heap.size, 0, none⟩) [p] := by
  intro k q hk
  have h0 : k = 0 := by have := Row.k_lt hk; simpa using this
  subst h0
  simp at hk
  subst hk
  have h := heap_alloc_new w (.cells #[.int .i64 p.a, .int .i64 p.h, .bool p.b] 43)
  refine ⟨w.heap.size, 0, rfl, by simp, ?_, ?_, ?_⟩ <;> simp only [World.cell?, h] <;> rfl

set_option maxHeartbeats 400000 in
theorem specInverse_yes (A : Option Addr) (c : Nat) (xs : List Pu) (w : World) (hs : isSeq xs = true) (hr : Rd w A xs) :
    Calls Tryz.prog 22 #[.slice A xs.length c] w (Made2 (inv xs) 0 w) := by
  have hn : xs.length ≤ 60 := by unfold isSeq at hs; simp at hs; exact hs.1
  have HS := Lib.hid hs; clear hs
  have HR := Lib.hid hr; clear hr
  go_enter Tryz.func22, Tryz.ntmps22
  go_wp2_with (go_at_call 31; refine (l05Is_any _ _ _ _ (by omega) HR.out).mono ?_; rintro e w' ⟨rfl, rfl⟩; rw [HS.out])
  go_loopw [4, 5] (fun v i wr => ∃ k : Nat, k ≤ xs.length ∧ i = .int .i64 ((k : Int) - 1) ∧ Own wr w.heap.size v (inv (xs.drop k)) ∧ Below w.heap.size w wr) (fun _ i _ => (intOf i + 1).toNat)
  case atStart => exact ⟨xs.length, Nat.le_refl _, by simp, .inr ⟨w.heap.size, 0, [], by simp [inv], Nat.le_refl _, by simp [inv]; unfold Row; exact heap_alloc_new w _, by simp [inv], by unfold maxLen; omega, by simp [inv]⟩, (Below.refl _ _).alloc (Nat.le_refl _) _⟩
  case round =>
    obtain ⟨k, hk, rfl, hown, hbw⟩ := hrel
    have HO := Lib.hid hown; clear hown
    rcases k with _ | k
    · go_wp2
      go_ret2
      exact ⟨_, rfl, HO.out, hbw⟩
    · have e : ((k + 1 : Nat) : Int) - 1 = (k : Int) := by omega
      rw [e]
      clear e
      obtain ⟨p, hp⟩ : ∃ p, xs[k]? = some p := ⟨_, List.getElem?_eq_getElem (by omega)⟩
      obtain ⟨b, off, rfl, hbl, h0, h1, h2⟩ := (HR.out.below hbw) k p hp
      obtain ⟨pa, ph, pb⟩ := p
      have HP := Lib.hid hp; clear hp
      have hlt : k < xs.length := by omega
      go_wp2
      have HB := Lib.hid hbw; clear hbw
      go_region_law (first | (refine step_append_p rfl _ _ rfl w.heap.size _ (inv (xs.drop (k + 1))) rfl (HO.out.below (((Below.refl _ _).alloc (Nat.le_refl _) _).drew)) _ _ 1 [⟨pa, ph, !pb⟩] rfl rfl (rd_one _ ⟨pa, ph, !pb⟩) (by rw [inv_length]; simp; omega) (Nat.le_trans HB.out.size (by simp)) ?_; intro v' w2 hown' hg _))
      all_goals
        have ho2 : Own w2 w.heap.size v' (inv (xs.drop k)) := by rw [inv_drop xs k _ HP.out]; exact hown'
        have hb2 : Below w.heap.size w w2 := (HB.out.alloc HB.out.size _).drew.grown hg (Nat.le_trans HB.out.size (by simp)) (fun g e => (HO.out.base g e).1)
        have H2 := Lib.hid ho2
        clear ho2 hown' hg
        go_wp2
        exact ⟨⟨k, by omega, rfl, H2.out, hb2⟩, by simp [intOf]⟩

theorem specInverse_no (A : Option Addr) (c : Nat) (xs : List Pu) (w : World) (hn : xs.length ≤ 1048576) (hs : isSeq xs = false) (hr : Rd w A xs) :
    Calls Tryz.prog 22 #[.slice A xs.length c] w (Made2 [] 1 w) := by
  have HS := Lib.hid hs; clear hs
  have HR := Lib.hid hr; clear hr
  go_enter Tryz.func22, Tryz.ntmps22
  go_wp2_with (go_at_call 31; refine (l05Is_any _ _ _ _ hn HR.out).mono ?_; rintro e w' ⟨rfl, rfl⟩; rw [HS.out])
  go_ret2
  exact ⟨_, rfl, .inl ⟨rfl, rfl⟩, Below.refl _ _⟩

theorem own_empty_a (w : World) : Own (w.alloc (.cells #[] 43)) w.heap.size (.slice (some ⟨w.heap.size, 0, none⟩) 0 0) [] :=
  .inr ⟨w.heap.size, 0, [], rfl, Nat.le_refl _, heap_alloc_new w _, Nat.le_refl _, by unfold maxLen; omega, rfl⟩

theorem clone_any (A : Option Addr) (c : Nat) (xs : List Pu) (w : World) (hn : xs.length ≤ 1048576) (hr : Rd w A xs) :
    Calls Tryz.prog 36 #[.slice A xs.length c] w (Made xs w) := by
  rcases A with _ | ad
  · have h0 : xs = [] := by
      cases xs with
      | nil => rfl
      | cons p r => obtain ⟨_, _, e, _⟩ := hr 0 p rfl; cases e
    subst h0
    have hq := fun (w : World) => Lib.run_eql_slice_nil (P := Tryz.prog) w 24 43 none 0 c 0 0 Tryz.underlying24
    go_enter Tryz.func36, Tryz.ntmps36
    go_wp2
    go_ret
    exact ⟨_, rfl, .inl ⟨rfl, rfl⟩, Below.refl _ _⟩
  · have HR := Lib.hid hr; clear hr
    have hq := fun (w : World) => Lib.run_eql_slice_nil (P := Tryz.prog) w 24 43 (some ad) xs.length c 0 0 Tryz.underlying24
    go_enter Tryz.func36, Tryz.ntmps36
    go_wp2_with (at_builtin; refine wpList_append_p rfl _ _ rfl w.heap.size _ [] rfl ?c1 _ _ _ xs rfl rfl ?c2 ?c3 ?c4 ?c5)
    case c1 => exact own_empty_a w
    case c2 => exact HR.out.below ((Below.refl _ _).alloc (Nat.le_refl _) _)
    case c3 => simp; omega
    case c4 => simp
    case c5 =>
      intro v' w2 hown' hg _
      have hb2 : Below w.heap.size w w2 := ((Below.refl _ _).alloc (Nat.le_refl _) _).grown hg (by simp) (fun g e => by simp [Value.ownBlock] at e; omega)
      have H2 := Lib.hid hown'
      clear hown' hg
      go_wp2
      go_ret
      exact ⟨_, rfl, H2.out, hb2⟩
end Go.Proofs.YtdijnjigamkhjaaGreatDoor
