/-
  NameSets: the state between its calls.
-/
import Derived.Test.YtgbknjpjhkegdaaGreatSetsA
import Derived.Test.YtgbknjpjhkegdaaGreatSetsO
import Derived.Test.YtgbknjpjhkegdaaGreatTellsA
namespace Go.Proofs.YtgbknjpjhkegdaaGreat
open Go.RowKit Go.Maps Go.WideMaps
set_option linter.unusedVariables false

/-- The Book at block bk, all of it from there on: it holds n lists. -/
def BookAt (bk : Nat) (wr : World) (n : Nat) : Prop := ∃ (tv wv : Value) (L C : List (Value × List ByteArray)), KindT bk bk wr tv wv L C ∧ Others bk wr ∧ L.map (·.2) = C.map (·.2) ∧ L.length = n ∧ ∀ x ∈ L, x.2.length ≤ 300000 ∧ ∀ s ∈ x.2, s.size ≤ 140737488351232

theorem BookAt.lt {bk n : Nat} {wr : World} (h : BookAt bk wr n) : bk < wr.heap.size := by
  obtain ⟨tv, wv, L, C, g1, _⟩ := h
  exact g1.lt
theorem BookAt.turn {T : Nat → Prop} {wr w' : World} {bk n : Nat} (h : BookAt bk wr n) (hw : Turned T wr w') (h0 : ¬ T bk) (h1 : ∀ k cur t, bk < k → wr.heap[k]? = some (.cells cur t (0, 0)) → ¬ T k) : BookAt bk w' n := by
  obtain ⟨tv, wv, L, C, g1, g2, g3⟩ := h
  have key : ∀ {v : Value} {e size n : Nat} {xs : List Value}, wr.ownsRow bk e size v n xs → v.ownBlock ≠ some bk → ∀ k, v.ownBlock = some k → ¬ T k := fun hr hf k hk => by
    obtain ⟨cur, e⟩ := own_type hr k hk
    have h2 := (hr.lt k hk).1
    have h3 : k ≠ bk := fun e => hf (by rw [hk, e])
    exact h1 k cur _ (by omega) e
  exact ⟨tv, wv, L, C, g1.keep hw h0 (key g1.lists.row g1.lists.rowfar) (key g1.copies.row g1.copies.rowfar) (fun x hx => key (g1.lists.each x hx) (g1.lists.far' x hx)) (fun x hx => key (g1.copies.each x hx) (g1.copies.far' x hx)), g2.keep g1.lt hw h0, g3⟩
theorem BookAt.step {wr w' : World} {bk n : Nat} (h : BookAt bk wr n) (hb : Below wr.heap.size wr w') : BookAt bk w' n :=
  h.turn (Turned.of_below hb fun _ => False) (fun e => e) fun _ _ _ _ _ e => e

/-- What one more list turns. -/
def BookFoot (bk : Nat) (wr : World) (k : Nat) : Prop := k = bk ∨ (bk < k ∧ ∃ cur, wr.heap[k]? = some (.cells cur 22 (0, 0)))

theorem BookAt.add {w1 wr : World} {bk n : Nat} {v : Value} {ss : List ByteArray} (h : BookAt bk w1 n) (hb : Below w1.heap.size w1 wr) (hv : OwnT wr w1.heap.size v ss) (hn : n < 250) (hl : ss.length ≤ 300000) (hs : ∀ s ∈ ss, s.size ≤ 140737488351232) :
    Calls Tryz.prog 12 #[.pointer (some ⟨bk, 0, none⟩), v] wr fun e w' => e = .returned (.tuple #[]) ∧ BookAt bk w' (n + 1) ∧ Turned (BookFoot bk wr) wr w' := by
  obtain ⟨tv, wv, L, C, g1, g2, g3, g4, g5⟩ := h
  have hbk := g1.lt
  have hown : OwnT wr bk v ss := own_le hv fun k hk => by have := (hv.lt k hk).1; omega
  have hC : C.length = n := by rw [← g4]; have := congrArg List.length g3; simpa using this.symm
  have g1' := g1.below hb
  have g2' := g2.keep hbk (Turned.of_below hb fun _ => False) (fun e => e)
  refine (addT_any bk bk L C tv wv v ss wr g1' (Nat.le_refl _) (by omega) (by omega) hown (fun e => by have := (hv.lt _ e).1; omega) (fun y hy k hk e => ?_) (by omega) hs).mono ?_
  · have := ((g1.lists.each y hy).lt k hk).2
    have := (hv.lt k e).1
    omega
  · rintro e w' ⟨rfl, ⟨tv', wv', u, q1⟩, q2, q3⟩
    refine ⟨rfl, ⟨tv', wv', _, _, q1, fun j j1 j2 j3 => (q3 j (by omega)).trans (g2' j j1 j2 j3), by simp [g3], by simp [g4], fun x hx => ?_⟩, q2.mono fun k _ hk => ?_⟩
    · rcases List.mem_append.1 hx with hx | hx
      · exact g5 x hx
      · obtain rfl := List.mem_singleton.1 hx
        exact ⟨hl, hs⟩
    · have key : ∀ {v : Value} {n : Nat} {xs : List Value}, wr.ownsRow bk 22 1 v n xs → v.ownBlock ≠ some bk → v.ownBlock = some k → BookFoot bk wr k := fun hr hf hk => by
        obtain ⟨cur, e⟩ := own_type hr k hk
        have h2 := (hr.lt k hk).1
        have h3 : k ≠ bk := fun e => hf (by rw [hk, e])
        exact .inr ⟨by omega, cur, e⟩
      rcases hk with rfl | hk | hk
      · exact .inl rfl
      · exact key g1'.lists.row g1'.lists.rowfar hk
      · exact key g1'.copies.row g1'.copies.rowfar hk

theorem BookAt.apart {wr : World} {bk n : Nat} (h : BookAt bk wr n) (hn : n ≤ 900) :
    Calls Tryz.prog 17 #[.pointer (some ⟨bk, 0, none⟩)] wr fun e w' => e = .returned (.bool true) ∧ Turned (fun k => bk ≤ k) wr w' := by
  obtain ⟨tv, wv, L, C, g1, g2, g3, g4, g5⟩ := h
  refine (apart_any bk bk L C tv wv wr g1 g2 (Nat.le_refl _) g3 (by omega) g5).mono ?_
  rintro e w' ⟨rfl, q⟩
  exact ⟨rfl, q.mono fun k _ ⟨x, hx, hk⟩ => ((g1.lists.each x hx).lt k hk).1⟩

theorem BookAt.new {w1 : World} {Z : Array Value} (hZ : Z = (List.replicate 34 (Value.slice none 0 0)).toArray) : BookAt w1.heap.size (w1.alloc (.cells Z 44)) 0 := by
  subst hZ
  have hc : ∀ j, j < 34 → (w1.alloc (.cells (List.replicate 34 (Value.slice none 0 0)).toArray 44)).cell? ⟨w1.heap.size, j, none⟩ = some (.slice none 0 0) := fun j hj => by
    rw [cell_of_row _ _ _ _ _ (0, 0) (heap_alloc_new _ _), List.getElem?_toArray, List.getElem?_replicate, if_pos hj]
  have hf : ∀ j, (w1.alloc (.cells (List.replicate 34 (Value.slice none 0 0)).toArray 44)).frozen? ⟨w1.heap.size, j, none⟩ = false := fun j => frozen_of_row _ _ _ _ _ (heap_alloc_new _ _)
  exact ⟨.slice none 0 0, .slice none 0 0, [], [], ⟨hc 0 (by omega), hc 1 (by omega), hf 0, hf 1, Lists.nil _, Lists.nil _, fun k hk => by simp [Value.ownBlock] at hk⟩, fun j hj _ _ => hc j hj, rfl, rfl, by simp⟩

theorem turned_of_turns {S : Nat → Prop} {w w' : World} (h : Turns S w w') : Turned S w w' := ⟨h.os, h.tape, h.output, h.size, h.block⟩
theorem turns_of_turned {S : Nat → Prop} {w w' : World} (h : Turned S w w') : Turns S w w' := ⟨h.os, h.tape, h.output, h.size, h.block⟩

/-- A set's map is no row of cells. -/
theorem SetAt.map_no_cells {w : World} {b : Nat} {p : Option Nat} {D : DU} (h : SetAt w b p D) : ∀ m, p = some m → ∀ cur t fr, w.heap[m]? ≠ some (.cells cur t fr) := fun m hm cur t fr e => by
  rcases h.2.2.2 with ⟨h0, _⟩ | ⟨m', hm', h1⟩
  · rw [h0] at hm; cases hm
  · rw [hm] at hm'
    injection hm' with hm'
    subst hm'
    obtain ⟨es, clock, h2, _⟩ := h1
    rw [h2] at e
    injection e with e
    cases e

/-- The state: the set at sb (an owned one's cell lies at own), what is in order 'now', the Book, the call at hand. -/
structure SetsNow (W0 : World) (sb bk : Nat) (own : Option Nat) (xb : Option (Nat × Array Value)) (wr : World) (p : Option Nat) (D : DU) (nv : Value) (N : List ByteArray) (n : Nat) : Prop where
  below : Below W0.heap.size W0 wr
  lo : W0.heap.size ≤ sb
  hi : sb < bk
  set : SetAt wr sb p D
  mne : ∀ m, p = some m → m ≠ sb ∧ W0.heap.size ≤ m ∧ m ≠ bk
  tidy : Tidy D
  str : StrMap D
  fits : Fits D
  now : OwnT wr (sb + 1) nv N
  nbk : nv.ownBlock ≠ some bk
  book : BookAt bk wr n
  oc : ∀ g, own = some g → g < bk ∧ W0.heap.size ≤ g ∧ g ≠ sb ∧ ∃ cur t fr, wr.heap[g]? = some (.cells cur t fr) ∧ wr.cell? ⟨g, 0, none⟩ = some (.pointer (some ⟨sb, 0, none⟩))
  xc : ∀ q, xb = some q → bk < q.1 ∧ wr.heap[q.1]? = some (.cells q.2 62 (0, 0))

section
variable {W0 wr w' : World} {sb bk n : Nat} {own p : Option Nat} {xb : Option (Nat × Array Value)} {D : DU} {nv : Value} {N : List ByteArray}

theorem SetsNow.step (h : SetsNow W0 sb bk own xb wr p D nv N n) (hb : Below wr.heap.size wr w') : SetsNow W0 sb bk own xb w' p D nv N n :=
  ⟨h.below.trans (hb.mono h.below.size), h.lo, h.hi, h.set.below hb, h.mne, h.tidy, h.str, h.fits, ownT_below h.now hb, h.nbk, h.book.step hb,
    fun g hg => by
      obtain ⟨h1, h2, h3, cur, t, fr, h4, h5⟩ := h.oc g hg
      have hlt := (Array.getElem?_eq_some_iff.1 h4).1
      exact ⟨h1, h2, h3, cur, t, fr, (hb.block g hlt).trans h4, (hb.cell (p := ⟨g, 0, none⟩) hlt).trans h5⟩,
    fun q hq => ⟨(h.xc q hq).1, (hb.block q.1 (Array.getElem?_eq_some_iff.1 (h.xc q hq).2).1).trans (h.xc q hq).2⟩⟩

/-- Behind a call that turns the set alone. -/
theorem SetsNow.turn {p' : Option Nat} {D' : DU} (h : SetsNow W0 sb bk own xb wr p D nv N n) (ht : Turns (Foot sb p) wr w') (hs : SetAt w' sb p' D') (hm : ∀ m, p' = some m → m ≠ sb ∧ W0.heap.size ≤ m ∧ m ≠ bk) (h1 : Tidy D') (h2 : StrMap D') (h3 : Fits D') : SetsNow W0 sb bk own xb w' p' D' nv N n := by
  have hT := turned_of_turns ht
  have hc : ∀ k cur t fr, k ≠ sb → wr.heap[k]? = some (.cells cur t fr) → ¬ Foot sb p k := fun k cur t fr hk e hf => by
    rcases hf with rfl | hf
    · exact hk rfl
    · exact h.set.map_no_cells k hf.symm cur t fr e
  refine ⟨h.below.trans (hT.below h.below.size fun k _ hf => ?_), h.lo, h.hi, hs, hm, h1, h2, h3, own_turned h.now hT (fun k hk => ?_), h.nbk, h.book.turn hT (fun hf => ?_) fun k cur t hbk e => hc k cur t _ (by have := h.hi; omega) e, fun g hg => ?_, fun q hq => ?_⟩
  · rcases hf with rfl | hf
    · exact h.lo
    · exact (h.mne k hf.symm).2.1
  · obtain ⟨cur, e⟩ := own_type h.now k hk
    have := (h.now.lt k hk).1
    exact hc k cur _ _ (by omega) e
  · rcases hf with e | hf
    · have := h.hi; omega
    · exact (h.mne bk hf.symm).2.2 rfl
  · obtain ⟨g1, g2, g3, cur, t, fr, g4, g5⟩ := h.oc g hg
    have hlt := (Array.getElem?_eq_some_iff.1 g4).1
    have hn := hc g cur t fr g3 g4
    exact ⟨g1, g2, g3, cur, t, fr, (hT.block g hlt hn).trans g4, (hT.cell (p := ⟨g, 0, none⟩) hlt hn).trans g5⟩
  · obtain ⟨q1, q2⟩ := h.xc q hq
    exact ⟨q1, (hT.block q.1 (Array.getElem?_eq_some_iff.1 q2).1 (hc q.1 _ _ _ (by have := h.hi; omega) q2)).trans q2⟩

/-- Behind one more list. -/
theorem SetsNow.list {w1 : World} {n' : Nat} (h : SetsNow W0 sb bk own xb wr p D nv N n) (hw : Turned (BookFoot bk wr) wr w') (hbk : BookAt bk w' n') : SetsNow W0 sb bk own xb w' p D nv N n' := by
  have hlo : ∀ k, BookFoot bk wr k → bk ≤ k := fun k hk => by rcases hk with rfl | hk; exact Nat.le_refl _; omega
  have hmap : ∀ m, p = some m → ¬ BookFoot bk wr m := fun m hm hf => by
    rcases hf with rfl | ⟨_, cur, e⟩
    · exact (h.mne _ hm).2.2 rfl
    · exact h.set.map_no_cells m hm _ _ _ e
  have hhi := h.hi
  have hl0 := h.lo
  refine ⟨h.below.trans (hw.below h.below.size fun k _ hf => by have := hlo k hf; omega), h.lo, h.hi, h.set.turns (turns_of_turned hw) (fun hf => by have := hlo sb hf; omega) hmap, h.mne, h.tidy, h.str, h.fits, own_turned h.now hw (fun k hk hf => ?_), h.nbk, hbk, fun g hg => ?_, fun q hq => ?_⟩
  · obtain ⟨cur, e⟩ := own_type h.now k hk
    rcases hf with rfl | ⟨_, cur', e'⟩
    · exact h.nbk hk
    · rw [e] at e'
      injection e' with e'
      injection e' with _ e' _
      revert e'
      decide
  · obtain ⟨g1, g2, g3, cur, t, fr, g4, g5⟩ := h.oc g hg
    have hlt := (Array.getElem?_eq_some_iff.1 g4).1
    have hn : ¬ BookFoot bk wr g := fun hf => by have := hlo g hf; omega
    exact ⟨g1, g2, g3, cur, t, fr, (hw.block g hlt hn).trans g4, (hw.cell (p := ⟨g, 0, none⟩) hlt hn).trans g5⟩
  · obtain ⟨q1, q2⟩ := h.xc q hq
    refine ⟨q1, (hw.block q.1 (Array.getElem?_eq_some_iff.1 q2).1 fun hf => ?_).trans q2⟩
    rcases hf with e | ⟨_, cur, e⟩
    · omega
    · rw [q2] at e
      injection e with e
      injection e with _ e _
      revert e
      decide
end
end Go.Proofs.YtgbknjpjhkegdaaGreat
