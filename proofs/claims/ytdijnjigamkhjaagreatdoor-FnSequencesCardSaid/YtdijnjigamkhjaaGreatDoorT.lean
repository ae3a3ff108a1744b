/- A range over the words between blanks: the law. -/
import Derived.Test.YtdijnjigamkhjaaGreatDoorQ
namespace Go.Proofs.YtdijnjigamkhjaaGreatDoor
open Go.RowKit
attribute [local go_sem] Oper.semAt_some

/-- Nothing turns but the iterator's text (block S) and the loop's own two blocks (S + 3, S + 4), which hold no pulses. -/
structure Lk (S : Nat) (W W' : World) : Prop where
  below : Below S W W'
  block : ∀ k, k < W.heap.size → k ≠ S → k ≠ S + 3 → k ≠ S + 4 → W'.heap[k]? = W.heap[k]?
  no : ∀ k cs fr, (k = S ∨ k = S + 3 ∨ k = S + 4) → W.heap[k]? ≠ some (.cells cs 43 fr)
/-- What the law keeps: the text's box, the block for deferred calls, the loop's record. -/
structure Bk (S : Nat) (r : Loop) (W : World) : Prop where
  s : ∃ v, W.heap[S]? = some (.cells #[v] 9 (0, 0))
  d : W.heap[S + 3]? = some (.deferred (some []))
  l : W.heap[S + 4]? = some (.loop r)
  p : ∃ v, W.heap[S + 1]? = some (.cells #[v] 9 (0, 0))
  v : ∃ v, W.heap[S + 2]? = some (.cells #[v] 3 (0, 0))
section
variable {S : Nat} {r r' : Loop} {W W' : World}
theorem Bk.no (b : Bk S r W) : ∀ k cs fr, (k = S ∨ k = S + 3 ∨ k = S + 4) → W.heap[k]? ≠ some (.cells cs 43 fr) := by
  obtain ⟨⟨v, hs⟩, hd, hl, _, _⟩ := b
  rintro k cs fr (rfl | rfl | rfl) h
  · rw [hs] at h; cases h
  · rw [hd] at h; cases h
  · rw [hl] at h; cases h
theorem Bk.turn (b : Bk S r W) : Lk S W (W.putObj (S + 4) (.loop r')) ∧ Bk S r' (W.putObj (S + 4) (.loop r')) := by
  have hlt : S + 4 < W.heap.size := (Array.getElem?_eq_some_iff.1 b.l).1
  have hne : ∀ k, k ≠ S + 4 → (W.putObj (S + 4) (.loop r')).heap[k]? = W.heap[k]? := fun k hk => World.putObj_heap_other hk
  refine ⟨⟨⟨rfl, rfl, rfl, by simp, fun k hk => hne k (by omega)⟩, fun k _ _ _ h4 => hne k h4, b.no⟩, ?_, (hne _ (by omega)).trans b.d, World.putObj_heap_same hlt, ?_, ?_⟩
  · obtain ⟨v, hs⟩ := b.s
    exact ⟨v, (hne _ (by omega)).trans hs⟩
  · obtain ⟨v, hs⟩ := b.p
    exact ⟨v, (hne _ (by omega)).trans hs⟩
  · obtain ⟨v, hs⟩ := b.v
    exact ⟨v, (hne _ (by omega)).trans hs⟩
theorem Bk.store (b : Bk S r W) (u : Value) : Lk S W (W.setCell ⟨S, 0, none⟩ u) ∧ Bk S r (W.setCell ⟨S, 0, none⟩ u) := by
  obtain ⟨v, hs⟩ := b.s
  have hne : ∀ k, k ≠ S → (W.setCell ⟨S, 0, none⟩ u).heap[k]? = W.heap[k]? := fun k hk => Below.heap_setCell _ _ _ _ hk
  exact ⟨⟨(Below.refl S W).setCell (Nat.le_refl _) _, fun k _ h _ _ => hne k h, b.no⟩, ⟨u, one_set u hs⟩, (hne _ (by omega)).trans b.d, (hne _ (by omega)).trans b.l, ⟨_, (hne _ (by omega)).trans b.p.choose_spec⟩, ⟨_, (hne _ (by omega)).trans b.v.choose_spec⟩⟩
/-- What the body leaves as it lay. -/
theorem Bk.over (b : Bk S r W) (h : ∀ k, S ≤ k → k ≤ S + 4 → W'.heap[k]? = W.heap[k]?) : Bk S r W' := by
  obtain ⟨v, hs⟩ := b.s
  exact ⟨⟨v, (h _ (by omega) (by omega)).trans hs⟩, (h _ (by omega) (by omega)).trans b.d, (h _ (by omega) (by omega)).trans b.l, ⟨_, (h _ (by omega) (by omega)).trans b.p.choose_spec⟩, ⟨_, (h _ (by omega) (by omega)).trans b.v.choose_spec⟩⟩
/-- None of the five holds pulses. -/
theorem Bk.not37 (b : Bk S r W) : ∀ k cs fr, S ≤ k → k ≤ S + 4 → W.heap[k]? ≠ some (.cells cs 43 fr) := by
  obtain ⟨⟨v, hs⟩, hd, hl, ⟨v1, hp⟩, ⟨v2, hv⟩⟩ := b
  intro k cs fr h1 h2 h
  rcases (show k = S ∨ k = S + 1 ∨ k = S + 2 ∨ k = S + 3 ∨ k = S + 4 by omega) with rfl | rfl | rfl | rfl | rfl
  · rw [hs] at h; cases h
  · rw [hp] at h; cases h
  · rw [hv] at h; cases h
  · rw [hd] at h; cases h
  · rw [hl] at h; cases h
end
/-- How the body may be left. -/
def wordPost (S : Nat) (I : List (List UInt8) → World → Prop) (Ix : World → Prop) (xs : List (List UInt8)) (W : World) : Exit → Act → World → Prop
  | .normal, _, W' => (∀ k, S ≤ k → k ≤ S + 4 → W'.heap[k]? = W.heap[k]?) ∧ I xs W'
  | .ret, _, W' => (∀ k, S ≤ k → k ≤ S + 4 → W'.heap[k]? = W.heap[k]?) ∧ Ix W'
  | _, _, _ => False
theorem range_words {n S : Nat} {x : List UInt8} (hx : x.length ≤ 1099511627776) {g : Operand} {p : Tmp} {assign body : Code} {Q : Exit → Act → World → Prop} {a : Act} {w : World}
    (hg : a.eval g = .func (.func 82) #[] #[.pointer (some ⟨S + 1, 0, none⟩), .pointer (some ⟨S, 0, none⟩), .pointer (some ⟨S + 2, 0, none⟩)])
    (hb : Bx w S (S + 1) (S + 2) ⟨x.toArray⟩) (hw : w.heap.size = S + 3)
    (I : List (List UInt8) → World → Prop) (Ix : World → Prop) (hI : ∀ pre W W', Lk S W W' → I pre W → I pre W') (hIx : ∀ W W', Lk S W W' → Ix W → Ix W') (h0 : I [] w) (a₁ : List UInt8 → Act)
    (hassign : ∀ (l : Nat) (y : List UInt8) (W : World) (K : Act → World → Prop), K (a₁ y) W →
      assign.wpIn (Fence.wide.inRound l) (n - 1 - 1) Tryz.prog (Exit.then K (fun _ _ _ => False)) { tmps := (#[p].zip #[.string ⟨y.toArray⟩]).foldl (fun t (p, v) => t.setIfInBounds p v) a.tmps, defers := [] } W)
    (hbody : ∀ (l : Nat) (r : Loop) (pre : List (List UInt8)) (y : List UInt8) (W : World), pre ++ [y] <+: spl x → I pre W → Bk S r W → body.wpIn (Fence.wide.inRound l) (n - 1 - 1) Tryz.prog (wordPost S I Ix (pre ++ [y]) W) (a₁ y) W)
    (hdone : ∀ W : World, I (spl x) W → W.heap[S + 3]? = some (.deferred (some [])) → Q .normal { a with defers := { target := .collected (S + 3), args := #[] } :: a.defers } W)
    (hstop : ∀ W : World, Ix W → W.heap[S + 3]? = some (.deferred (some [])) → Code.ret.wpIn Fence.wide n Tryz.prog Q { a with defers := { target := .collected (S + 3), args := #[] } :: a.defers } W) :
    (Code.rangeFunc g #[p] assign body).wpIn Fence.wide n Tryz.prog Q a w := by
  refine wpIn_rangeFunc ?_
  intro fn _
  obtain ⟨rec, hrec⟩ : ∃ rec : LoopState → Option Code → Loop, rec = fun st pe => { state := st, pending := pe, fn, tmps := a.tmps, params := #[p], assign, body, defers := w.heap.size } := ⟨_, rfl⟩
  obtain ⟨W1, hW1⟩ : ∃ W1, (w.alloc (.deferred (some []))).alloc (.loop (rec .ready none)) = W1 := ⟨_, rfl⟩
  have hkeep : ∀ k, k < S + 3 → W1.heap[k]? = w.heap[k]? := fun k hk => by
    rw [← hW1]
    exact (Below.heap_alloc _ _ _ (by simp; omega)).trans (Below.heap_alloc _ _ _ (by omega))
  have hd : W1.heap[S + 3]? = some (.deferred (some [])) := by
    rw [← hW1, ← hw]; exact (Below.heap_alloc _ _ _ (by simp)).trans (World.alloc_heap_new w _)
  have hl : W1.heap[S + 4]? = some (.loop (rec .ready none)) := by
    rw [← hW1]
    have := World.alloc_heap_new (w.alloc (.deferred (some []))) (.loop (rec .ready none))
    rw [World.size_alloc, hw] at this
    exact this
  have hk1 : Bk S (rec .ready none) W1 := ⟨⟨_, (hkeep S (by omega)).trans hb.s⟩, hd, hl, ⟨_, (hkeep _ (by omega)).trans hb.p⟩, ⟨_, (hkeep _ (by omega)).trans hb.v⟩⟩
  have hlk : Lk S w W1 := by
    refine ⟨?_, fun k hk _ _ _ => hkeep k (by omega), ?_⟩
    · rw [← hW1]; exact ((Below.refl S w).alloc (by omega) _).alloc (by simp; omega) _
    · rintro k cs fr (rfl | rfl | rfl) h
      · rw [hb.s] at h; cases h
      · have := (Array.getElem?_eq_some_iff.1 h).1; omega
      · have := (Array.getElem?_eq_some_iff.1 h).1; omega
  have hb1 : Bx W1 S (S + 1) (S + 2) ⟨x.toArray⟩ := hb.keep (fun k _ hk => hkeep k (by omega)) (.inl rfl) (by omega) (by omega)
  have hen := run_enterLoop_outer (P := Tryz.prog) (w := w) fn a.tmps #[p] assign body
  refine ⟨S + 4, [{ target := .collected (S + 3), args := #[] }], W1, { target := .fn (.func 82) #[.pointer (some ⟨S + 1, 0, none⟩), .pointer (some ⟨S, 0, none⟩), .pointer (some ⟨S + 2, 0, none⟩)], args := #[.func (.yield (S + 4)) #[] #[]] }, W1, 82,
    #[.func (.yield (S + 4)) #[] #[]] ++ #[.pointer (some ⟨S + 1, 0, none⟩), .pointer (some ⟨S, 0, none⟩), .pointer (some ⟨S + 2, 0, none⟩)], W1, ?_, ?_, fun _ _ => trivial, ?_, fun h => (by cases h), ?_⟩
  · rw [← hW1, hrec]
    rw [hw] at hen ⊢
    exact hen
  · simp only [resolve, hg]
    simp [go_sem]
  · simp [invoke, go_sem]
  · refine (split_in (n - 1) (S + 4) S x hx (fun pre W => I pre W ∧ Bk S (rec .ready none) W) (fun W => Ix W ∧ Bk S (rec .done (some .ret)) W)
      (fun pre W v h => ⟨hI _ _ _ (h.2.store v).1 h.1, (h.2.store v).2⟩) ?_ W1 hb1 ⟨hI _ _ _ hlk h0, hk1⟩).mono ?_
    · rintro pre y W hpre ⟨hi, hk⟩
      have hy := run_yield (P := Tryz.prog) (args := #[.string ⟨y.toArray⟩]) hk.l (by rw [hrec]; rfl)
      rw [hrec] at hy
      refine ⟨fn, _, assign, body, hy, roundIn_of_wpIn trivial (hassign _ y W _ ⟨_, run_beginRound hk.l (by rw [hrec]), ?_⟩)⟩
      have ht := hk.turn (r' := { rec .ready none with state := .busy })
      refine wpIn_mono (hbody (S + 4) _ pre y _ hpre (hI _ _ _ ht.1 hi) ht.2) ?_
      rintro e a3 W3 hp
      cases e with
      | normal =>
        obtain ⟨hk3, hi3⟩ := hp
        have hb3 := ht.2.over hk3
        have ht3 := hb3.turn (r' := rec .ready none)
        have hrun := run_endRound (P := Tryz.prog) none hb3.l
        refine ⟨_, _, hrun, .inl ⟨rfl, ?_, ?_⟩⟩
        · rw [hrec] at ht3 ⊢
          exact ⟨hI _ _ _ ht3.1 hi3, ht3.2⟩
        · intro k h1 h2
          exact ((World.putObj_heap_other (by omega)).trans (hk3 k h1 (by omega))).trans (World.putObj_heap_other (by omega))
      | ret =>
        obtain ⟨hk3, hi3⟩ := hp
        have hb3 := ht.2.over hk3
        have ht3 := hb3.turn (r' := rec .done (some .ret))
        have hrun := run_endRound (P := Tryz.prog) (some .ret) hb3.l
        refine ⟨_, _, hrun, .inr ⟨rfl, ?_⟩⟩
        rw [hrec] at ht3 ⊢
        exact ⟨hIx _ _ ht3.1 hi3, ht3.2⟩
      | exit id => exact hp.elim
      | goto t => exact hp.elim
      | panic ch => exact hp.elim
      | outgrown => exact hp.elim
    · rintro e W2 ⟨⟨v, rfl⟩, (⟨hi, hk⟩ | ⟨hi, hk⟩)⟩
      · have ht := hk.turn (r' := { rec .ready none with state := .exhausted })
        refine ⟨none, _, ?_, hdone _ (hI _ _ _ ht.1 hi) ht.2.d⟩
        have := run_endLoop (P := Tryz.prog) hk.l (by rw [hrec]; simp)
        rw [hrec] at this ⊢
        exact this
      · have ht := hk.turn (r' := { rec .done (some .ret) with state := .exhausted })
        refine ⟨some .ret, _, ?_, hstop _ (hIx _ _ ht.1 hi) ht.2.d⟩
        have := run_endLoop (P := Tryz.prog) hk.l (by rw [hrec]; simp)
        rw [hrec] at this ⊢
        exact this
end Go.Proofs.YtdijnjigamkhjaaGreatDoor
