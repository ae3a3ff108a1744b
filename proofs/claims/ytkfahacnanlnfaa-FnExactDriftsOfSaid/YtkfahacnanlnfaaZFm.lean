/- The program's tables of a sequence: rows of tables. -/
/- Walks: the program's tables of a sequence. -/
/- Walks: the program's tables of a sequence: one round's state. -/
import Derived.Test.YtkfahacnanlnfaaZFj
import Derived.Deep.DeepCutAuto
namespace Go.Proofs.Ytkfahacnanlnfaa
open Go.RowKit Ieee

/-- The program's table behind so many pulses, and its code. -/
def iT (m : Int) (xs : List Pl.Pu) (k : Nat) : T8 := match tbl m xs k with | some t => czT t | none => zeroT
def iC (m : Int) (xs : List Pl.Pu) (k : Nat) : Int := match tbl m xs k with | some _ => 0 | none => 5
/-- The reference's table that the program's is of. -/
def sT (m : Int) (xs : List Pl.Pu) (k : Nat) : T8 := (tbl m xs k).getD zeroT
theorem iT_fz (m : Int) (xs : List Pl.Pu) (k : Nat) : iT m xs k = fzT (iC m xs k) (sT m xs k) := by
  unfold iT iC sT
  cases tbl m xs k with
  | none => rw [fzT_not (by decide)]
  | some t => rw [Option.getD_some, fzT0]
theorem sT_lim {m : Int} {xs : List Pl.Pu} (hs : Pl.isSeq xs = true) {k : Nat} (hk : k ≤ xs.length) : limT ((k : Int) + 1) (sT m xs k) := by
  unfold sT
  cases h : tbl m xs k with
  | none => exact limT_zero
  | some t => exact tbl_lim hs k t hk h
/-- One pulse more. -/
theorem step_next {m : Int} {xs : List Pl.Pu} {k : Nat} {p : Pl.Pu} (hp : xs[k]? = some p) :
    (0 < m ∧ ((k : Int) + 1) % m = 0 → fzT (if iC m xs k = 0 then renC (iC m xs k) (tmT (plT p) (sT m xs k)) else iC m xs k) (renT (tmT (plT p) (sT m xs k))) = iT m xs (k + 1) ∧ (if iC m xs k = 0 then renC (iC m xs k) (tmT (plT p) (sT m xs k)) else iC m xs k) = iC m xs (k + 1)) ∧
    (¬ (0 < m ∧ ((k : Int) + 1) % m = 0) → fzT (iC m xs k) (tmT (plT p) (sT m xs k)) = iT m xs (k + 1) ∧ iC m xs k = iC m xs (k + 1)) := by
  cases h : tbl m xs k with
  | none =>
    have h1 := tbl_none h (k + 1) (by omega)
    have a1 : iC m xs k = 5 := by unfold iC; rw [h]
    have a2 : iC m xs (k + 1) = 5 := by unfold iC; rw [h1]
    have a3 : iT m xs (k + 1) = zeroT := by unfold iT; rw [h1]
    rw [a1, a2, a3]
    rw [if_neg (show ¬ (5 : Int) = 0 by decide)]
    exact ⟨fun _ => ⟨fzT_not (by decide) _, rfl⟩, fun _ => ⟨fzT_not (by decide) _, rfl⟩⟩
  | some t =>
    have h1 := tbl_succ m xs k t p h hp
    have a1 : iC m xs k = 0 := by unfold iC; rw [h]
    have a2 : sT m xs k = t := by unfold sT; rw [h]; rfl
    rw [a1, a2]
    unfold iT iC
    rw [h1]
    unfold stepT
    constructor
    · intro hc
      rw [if_pos hc, if_pos rfl]
      unfold renC failed
      cases deadT (tmT (plT p) t) with
      | true => exact ⟨fzT_not (by decide) _, rfl⟩
      | false => exact ⟨fzT0 _, rfl⟩
    · intro hc
      rw [if_neg hc]
      exact ⟨fzT0 _, rfl⟩
/-- The cells of a table. -/
def t4 (t : T8) : List Value := [.complex .f32 t.a t.b, .complex .f32 t.c t.d, .complex .f32 t.e t.f, .complex .f32 t.g t.h]
def flT (m : Int) (xs : List Pl.Pu) : Nat → List Value
  | 0 => []
  | n + 1 => flT m xs n ++ t4 (iT m xs n)
theorem flT_length (m : Int) (xs : List Pl.Pu) (n : Nat) : (flT m xs n).length = n * 4 := by
  induction n with
  | zero => rfl
  | succ n ih => simp [flT, ih, t4, Nat.add_mul]
theorem flT_get (m : Int) (xs : List Pl.Pu) (n : Nat) : ∀ j i v, j < n → (t4 (iT m xs j))[i]? = some v → (flT m xs n)[j * 4 + i]? = some v := by
  induction n with
  | zero => intro j i v h; omega
  | succ n ih =>
    intro j i v hj hv
    have hi : i < 4 := (List.getElem?_eq_some_iff.1 hv).1
    show (flT m xs n ++ t4 (iT m xs n))[j * 4 + i]? = some v
    rcases Nat.lt_or_ge j n with h | h
    · rw [List.getElem?_append_left (by rw [flT_length]; omega)]
      exact ih j i v h hv
    · obtain rfl : j = n := by omega
      rw [List.getElem?_append_right (by rw [flT_length]; omega), flT_length, Nat.add_sub_cancel_left]
      exact hv
theorem info51 : (Try.prog.info? 51).map (fun i => (i.zero, i.size, i.bytes)) = some (some (.agg #[.complex .f32 0 0, .complex .f32 0 0, .complex .f32 0 0, .complex .f32 0 0]), 4, 32) := by kernel_rfl
end Go.Proofs.Ytkfahacnanlnfaa
namespace Go.Proofs.Ytkfahacnanlnfaa
open Go.RowKit Ieee
attribute [local go_sem ↓] Go.wp_at_zero Go.wp_at_succ

theorem tableOf_val (B : Nat) (q : Int) (a : Int) (k : Nat) (b : Bool) (w : World) (u : T8) (hu : fzT q (plT ⟨a, (k : Int), b⟩) = u) (h : CalcAt w B q) (ha : a = 0 ∨ a = 1 ∨ a = 2) (hk : k ≤ 24) :
    Calls Try.prog 91 #[.pointer (some ⟨B, 0, none⟩), .agg #[.int .i64 a, .int .i64 (k : Int), .bool b]] w fun e w' => e = .returned (.agg #[.complex .f32 u.a u.b, .complex .f32 u.c u.d, .complex .f32 u.e u.f, .complex .f32 u.g u.h]) ∧ CalcAt w' B q ∧ w.grownBy w' (some B) := by
  rw [← hu]; exact tableOf_any B q a k b w h ha hk
theorem product_val {K : Int} (B : Nat) (q : Int) (x y : T8) (u v r : T8) (w : World) (hu : fzT q x = u) (hv : fzT q y = v) (hr : fzT q (tmT x y) = r) (hB : CalcAt w B q) (hx : purT x) (hy : limT K y) (h1 : -149 ≤ K) (h2 : K < 125) :
    Calls Try.prog 90 #[.pointer (some ⟨B, 0, none⟩), .agg #[.complex .f32 u.a u.b, .complex .f32 u.c u.d, .complex .f32 u.e u.f, .complex .f32 u.g u.h], .agg #[.complex .f32 v.a v.b, .complex .f32 v.c v.d, .complex .f32 v.e v.f, .complex .f32 v.g v.h]] w
      fun e w' => e = .returned (.agg #[.complex .f32 r.a r.b, .complex .f32 r.c r.d, .complex .f32 r.e r.f, .complex .f32 r.g r.h]) ∧ CalcAt w' B q ∧ w.grownBy w' (some B) := by
  rw [← hu, ← hv, ← hr]; exact product_any B q x y w hB hx hy h1 h2
theorem renewTurn_val {K : Int} (B : Nat) (q q' : Int) (t u v : T8) (w : World) (hu : fzT q t = u) (hq : (if q = 0 then renC q t else q) = q') (hv : fzT q' (renT t) = v) (h : CalcAt w B q) (ht : limT K t) (h1 : -74 ≤ K) (h2 : K ≤ 62) :
    Calls Try.prog 92 #[.pointer (some ⟨B, 0, none⟩), .agg #[.complex .f32 u.a u.b, .complex .f32 u.c u.d, .complex .f32 u.e u.f, .complex .f32 u.g u.h]] w
      fun e w' => e = .returned (.agg #[.complex .f32 v.a v.b, .complex .f32 v.c v.d, .complex .f32 v.e v.f, .complex .f32 v.g v.h]) ∧ CalcAt w' B q' ∧ w.grownBy w' (some B) := by
  rw [← hu, ← hv, ← hq]; exact renewTurn_any B q t w h ht h1 h2
/-- What the loop keeps: the tables so far, the calculation, the list. -/
structure Tb (w : World) (B : Nat) (m : Int) (xs : List Pl.Pu) (k : Nat) (v : Value) (wr : World) : Prop where
  own : wr.ownsRow w.heap.size 51 4 v (k + 1) (flT m xs (k + 1))
  hc : CalcAt wr B (iC m xs k)
  hg : w.grownBy wr (some B)
  hB : B < w.heap.size
theorem Rd_grown {w w' : World} {A : Option Addr} {xs : List Pl.Pu} {B : Nat} (h : Pl.Rd w A xs) (hg : w.grownBy w' (some B)) (hA : ∀ b off, A = some ⟨b, off, none⟩ → b ≠ B) : Pl.Rd w' A xs := by
  intro k p hp
  obtain ⟨b, off, e, hl, c0, c1, c2⟩ := h k p hp
  have hb := hg.block b hl (fun e' => hA b off e (Option.some.inj e'))
  refine ⟨b, off, e, Nat.lt_of_lt_of_le hl hg.size, ?_, ?_, ?_⟩
  · rw [← c0]; simp [World.cell?, hb]
  · rw [← c1]; simp [World.cell?, hb]
  · rw [← c2]; simp [World.cell?, hb]
theorem own_tab {wr : World} {base : Nat} {m : Int} {xs : List Pl.Pu} {n : Nat} {v : Value} (h : wr.ownsRow base 51 4 v n (flT m xs n)) {j : Nat} (hj : j < n) : ∃ g cap, v = .slice (some ⟨g, 0, none⟩) n cap ∧ base ≤ g ∧ g < wr.heap.size ∧ n ≤ cap ∧
    wr.cell? ⟨g, j * 4, none⟩ = some (.complex .f32 (iT m xs j).a (iT m xs j).b) ∧ wr.cell? ⟨g, j * 4 + 1, none⟩ = some (.complex .f32 (iT m xs j).c (iT m xs j).d) ∧ wr.cell? ⟨g, j * 4 + 2, none⟩ = some (.complex .f32 (iT m xs j).e (iT m xs j).f) ∧ wr.cell? ⟨g, j * 4 + 3, none⟩ = some (.complex .f32 (iT m xs j).g (iT m xs j).h) := by
  have HW := h
  obtain ⟨hl, ⟨rfl, h0⟩ | ⟨g, cap, cur, rfl, hg, hh, hc, hm, hs, ht⟩⟩ := h
  · omega
  · have hgl := (Array.getElem?_eq_some_iff.1 hh).1
    have hcells := HW.cells (g := g) rfl
    have key : ∀ i v, (t4 (iT m xs j))[i]? = some v → wr.cell? ⟨g, j * 4 + i, none⟩ = some v := by
      intro i v hv
      have := hcells (j * 4 + i) v (flT_get m xs n j i v hj hv)
      rw [addr_plus, Nat.zero_add] at this
      exact this
    exact ⟨g, cap, rfl, hg, hgl, hc, key 0 _ rfl, key 1 _ rfl, key 2 _ rfl, key 3 _ rfl⟩
end Go.Proofs.Ytkfahacnanlnfaa
namespace Go.Proofs.Ytkfahacnanlnfaa
open Go.RowKit Ieee
attribute [local go_sem ↓] Go.wp_at_zero Go.wp_at_succ

theorem ownsRow_keep {w w' : World} {base n : Nat} {e : TypeId} {size : Nat} {v : Value} {xs : List Value} (h : w.ownsRow base e size v n xs) (hb : ∀ g, base ≤ g → g < w.heap.size → v.ownBlock = some g → w'.heap[g]? = w.heap[g]?) : w'.ownsRow base e size v n xs := by
  obtain ⟨hl, h | ⟨g, cap, cur, rfl, hg, hh, rest⟩⟩ := h
  · exact ⟨hl, .inl h⟩
  · exact ⟨hl, .inr ⟨g, cap, cur, rfl, hg, (hb g hg (Array.getElem?_eq_some_iff.1 hh).1 rfl).trans hh, rest⟩⟩
section
variable {w wx w2 : World} {B : Nat} {m : Int} {xs : List Pl.Pu} {k : Nat} {v : Value}
theorem Tb.drew (h : Tb w B m xs k v wx) : Tb w B m xs k v wx.drew :=
  ⟨ownsRow_keep h.own (fun _ _ _ _ => rfl), h.hc, ⟨h.hg.os, h.hg.tape, h.hg.output, h.hg.size, h.hg.block⟩, h.hB⟩
theorem Tb.alloc (h : Tb w B m xs k v wx) (o : Obj) : Tb w B m xs k v (wx.alloc o) :=
  ⟨ownsRow_keep h.own (fun g _ hl _ => Below.heap_alloc _ _ _ hl), calcAlloc h.hc o, grownAlloc h.hg o, h.hB⟩
theorem Tb.call (h : Tb w B m xs k v wx) (hc : CalcAt w2 B (iC m xs k)) (hg : wx.grownBy w2 (some B)) : Tb w B m xs k v w2 := by
  have hB := h.hB
  exact ⟨ownsRow_keep h.own (fun g h1 h2 _ => hg.block g h2 (fun e => by have := Option.some.inj e; omega)), hc, h.hg.trans hg, hB⟩
theorem Tb.put (h : Tb w B m xs k v wx) {T : Nat} (hT : w.heap.size ≤ T) (hv : v.ownBlock ≠ some T) (u0 u1 u2 u3 : Value) :
    Tb w B m xs k v ((((wx.setCell ⟨T, 0, none⟩ u0).setCell ⟨T, 1, none⟩ u1).setCell ⟨T, 2, none⟩ u2).setCell ⟨T, 3, none⟩ u3) := by
  have hB := h.hB
  obtain ⟨c1, c2⟩ := high4 (B := B) (R := T) h.hc h.hg (by omega) hT u0 u1 u2 u3
  refine ⟨ownsRow_keep h.own (fun g _ _ e => ?_), c1, c2, hB⟩
  have hne : g ≠ T := fun e2 => hv (by rw [e, e2])
  exact (Below.heap_setCell _ _ _ _ hne).trans ((Below.heap_setCell _ _ _ _ hne).trans ((Below.heap_setCell _ _ _ _ hne).trans (Below.heap_setCell _ _ _ _ hne)))
end
/-- Within a round: the tables, and the pulse in block P. -/
structure Sx (w : World) (B : Nat) (m : Int) (xs : List Pl.Pu) (k : Nat) (v : Value) (P : Nat) (a h : Int) (b : Bool) (wx : World) : Prop where
  tb : Tb w B m xs k v wx
  pu : PuAt wx P a h b
  hP : B < P
section
variable {w wx w2 : World} {B : Nat} {m : Int} {xs : List Pl.Pu} {k : Nat} {v : Value} {P : Nat} {a h : Int} {b : Bool}
theorem Sx.drew (s : Sx w B m xs k v P a h b wx) : Sx w B m xs k v P a h b wx.drew := ⟨s.tb.drew, s.pu, s.hP⟩
theorem Sx.alloc (s : Sx w B m xs k v P a h b wx) (o : Obj) : Sx w B m xs k v P a h b (wx.alloc o) := ⟨s.tb.alloc o, s.pu.alloc o, s.hP⟩
theorem Sx.call (s : Sx w B m xs k v P a h b wx) (hc : CalcAt w2 B (iC m xs k)) (hg : wx.grownBy w2 (some B)) : Sx w B m xs k v P a h b w2 := by
  have hP := s.hP
  exact ⟨s.tb.call hc hg, s.pu.grown hg (by omega), hP⟩
end
/-- Behind the product. -/
def Cp (w : World) (B : Nat) (m : Int) (xs : List Pl.Pu) (k : Nat) (v : Value) (U : T8) (s10 : Value) (wx : World) : Prop :=
  ∃ T, s10 = .pointer (some ⟨T, 0, none⟩) ∧ TabAt wx T U ∧ Tb w B m xs k v wx ∧ w.heap.size ≤ T ∧ v.ownBlock ≠ some T
theorem own_block_lt {wr : World} {base n : Nat} {e : TypeId} {size : Nat} {v : Value} {xs : List Value} (h : wr.ownsRow base e size v n xs) {g : Nat} (hv : v.ownBlock = some g) : base ≤ g ∧ g < wr.heap.size := by
  obtain ⟨hl, ⟨rfl, _⟩ | ⟨g', cap, cur, rfl, hg, hh, rest⟩⟩ := h
  · cases hv
  · obtain rfl : g' = g := by injection hv
    exact ⟨hg, (Array.getElem?_eq_some_iff.1 hh).1⟩
theorem Cp.of_put {w wx w0 : World} {B : Nat} {m : Int} {xs : List Pl.Pu} {k : Nat} {v : Value} {U : T8} {T : Nat} {a b c d : Value} (h : Tb w B m xs k v wx) (hr : Row4 wx T a b c d) (h0 : Tb w B m xs k v w0) (hT : T = w0.heap.size) :
    Cp w B m xs k v U (.pointer (some ⟨T, 0, none⟩)) ((((wx.setCell ⟨T, 0, none⟩ (.complex .f32 U.a U.b)).setCell ⟨T, 1, none⟩ (.complex .f32 U.c U.d)).setCell ⟨T, 2, none⟩ (.complex .f32 U.e U.f)).setCell ⟨T, 3, none⟩ (.complex .f32 U.g U.h)) := by
  have hs := h0.hg.size
  have hv : v.ownBlock ≠ some T := fun e => by
    have := (own_block_lt h0.own e).2
    omega
  exact ⟨T, rfl, hr.put _ _ _ _, h.put (by omega) hv _ _ _ _, by omega, hv⟩
theorem Cp.of_new {w wx : World} {B : Nat} {m : Int} {xs : List Pl.Pu} {k : Nat} {v : Value} {U : T8} (h : Tb w B m xs k v wx) :
    Cp w B m xs k v U (.pointer (some ⟨wx.heap.size, 0, none⟩)) (wx.alloc (.cells #[.complex .f32 U.a U.b, .complex .f32 U.c U.d, .complex .f32 U.e U.f, .complex .f32 U.g U.h] 51)) := by
  have hs := h.hg.size
  exact ⟨_, rfl, row4_new _ _ _ _ _ _, h.alloc _, hs, fun e => by have := (own_block_lt h.own e).2; omega⟩
end Go.Proofs.Ytkfahacnanlnfaa
