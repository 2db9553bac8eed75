/-
  The walk of NameTells: one round.
-/
import Derived.Test.YtgbknjpjhkegdaaGreatSortX
import Derived.Test.YtgbknjpjhkegdaaGreatBookX
import Derived.Test.YtgbknjpjhkegdaaGreatBookZ
import Derived.Test.YtgbknjpjhkegdaaGreatNamH
import Derived.Test.YtgbknjpjhkegdaaGreatApart
namespace Go.Proofs.YtgbknjpjhkegdaaGreat
open Go.RowKit Go.Maps Go.WideMaps
set_option linter.unusedVariables false

theorem own_of_newT {w : World} {base : Nat} {v : Value} {ss : List ByteArray} (h : NewTexts base w v ss) : OwnT w base v ss := by
  refine ⟨by simp, ?_⟩
  rcases h.2 with ⟨rfl, rfl⟩ | ⟨g, c, cur, rfl, h2, h3, h4, h5, h6, h7⟩
  · exact .inl ⟨rfl, rfl⟩
  · refine .inr ⟨g, c, cur, rfl, h2, h3, h4, h5, by rw [h6, Nat.mul_one], ?_⟩
    rw [Nat.mul_one]
    obtain ⟨a', c2, h1, _, _, hcs⟩ := h.1
    rcases hcs with hcs | ⟨b', off', e, hlt, hc⟩
    · exact absurd hcs h7
    · rw [e] at h1
      simp at h1
      obtain ⟨⟨rfl, rfl⟩, rfl⟩ := h1
      refine List.ext_getElem? fun j => ?_
      by_cases hj : j < ss.length
      · have := hc j hj
        rw [Nat.zero_add] at this
        have : cur[j]? = some (.string (ss.getD j ByteArray.empty)) := by simpa [World.cell?, h3] using this
        rw [List.getElem?_take_of_lt hj, Array.getElem?_toList, this]
        simp [List.getD, hj]
      · rw [List.getElem?_eq_none (by rw [List.length_take]; omega), List.getElem?_eq_none (by simp; omega)]

theorem lent_texts {w : World} {base : Nat} {v : Value} {ss : List ByteArray} (h : LentT w base v ss) (hl : ss.length ≤ 900000) (hs : ∀ s ∈ ss, s.size ≤ 140737488351232) : TextsAt w v ss := by
  obtain ⟨g, c, rfl, h1, h2⟩ := h
  rw [List.map_append] at h2
  exact ownT_texts (base := base) (own_front h2 (by omega) (by simp)) (by omega) hs
theorem lent_below {w w' : World} {base : Nat} {v : Value} {ss : List ByteArray} (h : LentT w base v ss) (hb : Below w.heap.size w w') : LentT w' base v ss := by
  obtain ⟨g, c, rfl, h1, h2⟩ := h
  exact ⟨g, c, rfl, h1, ownsRow_below h2 hb⟩

/-- The Book behind some calls, since w: it holds n lists. -/
structure BookNow (w : World) (bk : Nat) (wr : World) (n : Nat) : Prop where
  lo : w.heap.size ≤ bk
  below : Below w.heap.size w wr
  at_ : ∃ (tv wv : Value) (L C : List (Value × List ByteArray)), KindT w.heap.size bk wr tv wv L C ∧ Others bk wr ∧ L.map (·.2) = C.map (·.2) ∧ L.length = n ∧ ∀ x ∈ L, x.2.length ≤ 300000 ∧ ∀ s ∈ x.2, s.size ≤ 140737488351232

theorem BookNow.turn {T : Nat → Prop} {w wr w' : World} {bk n : Nat} (h : BookNow w bk wr n) (hw : Turned T wr w') (h0 : ¬ T bk) (h1 : ∀ k cur, wr.heap[k]? = some (.cells cur 9 (0, 0)) → ¬ T k) (h2 : ∀ k cur, wr.heap[k]? = some (.cells cur 22 (0, 0)) → ¬ T k) (hb : ∀ k, T k → w.heap.size ≤ k) : BookNow w bk w' n := by
  obtain ⟨tv, wv, L, C, g1, g2, g3⟩ := h.at_
  refine ⟨h.lo, h.below.trans (hw.below h.below.size fun k _ hk => hb k hk), tv, wv, L, C, g1.keep hw h0 (fun k hk => ?_) (fun k hk => ?_) (fun x hx k hk => ?_) (fun x hx k hk => ?_), g2.keep g1.lt hw h0, g3⟩
  · obtain ⟨cur, e⟩ := own_type g1.lists.row k hk
    exact h2 k cur e
  · obtain ⟨cur, e⟩ := own_type g1.copies.row k hk
    exact h2 k cur e
  · obtain ⟨cur, e⟩ := own_type (g1.lists.each x hx) k hk
    exact h1 k cur e
  · obtain ⟨cur, e⟩ := own_type (g1.copies.each x hx) k hk
    exact h1 k cur e
theorem BookNow.step {w wr w' : World} {bk n : Nat} (h : BookNow w bk wr n) (hb : Below wr.heap.size wr w') : BookNow w bk w' n :=
  h.turn (Turned.of_below hb fun _ => False) (fun e => e) (fun _ _ _ e => e) (fun _ _ _ e => e) fun _ e => e.elim

/-- One more list: it lies behind all that there was in the world w1. -/
theorem BookNow.add {w w1 wr : World} {bk n : Nat} {v : Value} {ss : List ByteArray} (h : BookNow w bk w1 n) (hb : Below w1.heap.size w1 wr) (hv : OwnT wr w1.heap.size v ss) (hn : n < 250) (hl : ss.length ≤ 300000) (hs : ∀ s ∈ ss, s.size ≤ 140737488351232) :
    Calls Tryz.prog 12 #[.pointer (some ⟨bk, 0, none⟩), v] wr fun e w' => e = .returned (.tuple #[]) ∧ BookNow w bk w' (n + 1) ∧ Turned (fun k => k = bk ∨ ∃ cur, wr.heap[k]? = some (.cells cur 22 (0, 0))) wr w' := by
  obtain ⟨tv, wv, L, C, g1, g2, g3, g4, g5⟩ := h.at_
  have hbk := g1.lt
  have hsz := h.below.size
  have hown : OwnT wr w.heap.size v ss := own_le hv fun k hk => by have := (hv.lt k hk).1; omega
  have hC : C.length = n := by rw [← g4]; have := congrArg List.length g3; simpa using this.symm
  have g1' := g1.below hb
  have g2' := g2.keep hbk (Turned.of_below hb fun _ => False) (fun e => e)
  have hbw : Below w.heap.size w wr := h.below.trans (hb.mono hsz)
  refine (addT_any w.heap.size bk L C tv wv v ss wr g1' h.lo (by omega) (by omega) hown (fun e => by have := (hv.lt _ e).1; omega) (fun y hy k hk e => ?_) (by omega) hs).mono ?_
  · have := ((g1.lists.each y hy).lt k hk).2
    have := (hv.lt k e).1
    omega
  · rintro e w' ⟨rfl, ⟨tv', wv', u, q1⟩, q2, q3⟩
    refine ⟨rfl, ⟨h.lo, hbw.trans (q2.below hbw.size fun k _ hk => ?_), tv', wv', _, _, q1, fun j j1 j2 j3 => (q3 j (by omega)).trans (g2' j j1 j2 j3), by simp [g3], by simp [g4], fun x hx => ?_⟩, q2.mono fun k _ hk => ?_⟩
    · rcases hk with rfl | hk | hk
      · exact h.lo
      · exact (g1.lists.row.lt k hk).1
      · exact (g1.copies.row.lt k hk).1
    · rcases List.mem_append.1 hx with hx | hx
      · exact g5 x hx
      · obtain rfl := List.mem_singleton.1 hx
        exact ⟨hl, hs⟩
    · rcases hk with rfl | hk | hk
      · exact .inl rfl
      · exact .inr (own_type g1'.lists.row k hk)
      · exact .inr (own_type g1'.copies.row k hk)

/-- The Book's own answer. -/
theorem BookNow.apart {w wr : World} {bk n : Nat} (h : BookNow w bk wr n) (hn : n ≤ 900) :
    Calls Tryz.prog 17 #[.pointer (some ⟨bk, 0, none⟩)] wr fun e w' => e = .returned (.bool true) ∧ Below w.heap.size w w' := by
  obtain ⟨tv, wv, L, C, g1, g2, g3, g4, g5⟩ := h.at_
  refine (apart_any w.heap.size bk L C tv wv wr g1 g2 h.lo g3 (by omega) g5).mono ?_
  rintro e w' ⟨rfl, q⟩
  exact ⟨rfl, h.below.trans (q.below h.below.size fun k _ ⟨x, hx, hk⟩ => ((g1.lists.each x hx).lt k hk).1)⟩

/-- A new Book. -/
theorem BookNow.new {w w1 : World} {Z : Array Value} (hb : Below w.heap.size w w1) (hZ : Z = (List.replicate 34 (Value.slice none 0 0)).toArray) : BookNow w w1.heap.size (w1.alloc (.cells Z 44)) 0 := by
  subst hZ
  have hc : ∀ j, j < 34 → (w1.alloc (.cells (List.replicate 34 (Value.slice none 0 0)).toArray 44)).cell? ⟨w1.heap.size, j, none⟩ = some (.slice none 0 0) := fun j hj => by
    rw [cell_of_row _ _ _ _ _ (0, 0) (heap_alloc_new _ _), List.getElem?_toArray, List.getElem?_replicate, if_pos hj]
  have hf : ∀ j, (w1.alloc (.cells (List.replicate 34 (Value.slice none 0 0)).toArray 44)).frozen? ⟨w1.heap.size, j, none⟩ = false := fun j => frozen_of_row _ _ _ _ _ (heap_alloc_new _ _)
  refine ⟨hb.size, hb.alloc hb.size _, .slice none 0 0, .slice none 0 0, [], [], ⟨hc 0 (by omega), hc 1 (by omega), hf 0, hf 1, Lists.nil _, Lists.nil _, fun k hk => by simp [Value.ownBlock] at hk⟩, fun j hj _ _ => hc j hj, rfl, rfl, by simp⟩
end Go.Proofs.YtgbknjpjhkegdaaGreat
