/-
  The document's sorting of texts: the walk.
-/
import Derived.Test.YtgbknjpjhkegdaaGreatSortP
import Derived.Test.YtgbknjpjhkegdaaGreatTxB
import Derived.IntWalk
namespace Go.Proofs.YtgbknjpjhkegdaaGreat
open Go.RowKit Go.Maps Go.WideMaps
set_option linter.unusedVariables false

set_option maxRecDepth 100000 in
/-- append of texts onto an own row of texts. -/
theorem appendTs {w : World} {base : Nat} {v u : Value} {ss xs : List ByteArray} (hown : OwnT w base v ss) (hu : TextsAt w u xs) (hl : ss.length + xs.length ≤ 1000000) (hb : base ≤ w.heap.size) :
    ∃ v' w', (Builtin.append_ #[22, 22] 22 #[v, u]).run Tryz.prog w = .ok v' w' ∧ OwnT w' base v' (ss ++ xs) ∧ Turned (fun k => v'.ownBlock = some k) w w' ∧ (v'.ownBlock = v.ownBlock ∨ v'.ownBlock = some w.heap.size) := by
  obtain ⟨a, c, rfl, _, _, hcs⟩ := hu
  obtain ⟨i0, hi, hz0, hz1, hz2⟩ := info_parts infoT
  cases a with
  | none =>
    have hxs : xs = [] := by
      rcases hcs with h | ⟨b, off, e, _⟩
      · exact h
      · cases e
    subst hxs
    have hr : ∀ v, OwnT w base v ss → (Builtin.append_ #[22, 22] 22 #[v, .slice none 0 c]).run Tryz.prog w = .ok v w := fun v hv => by
      rcases hv.2 with ⟨rfl, _⟩ | ⟨g, cap, cur, rfl, h1, h2, h3, h4, h5, h6⟩
      · exact append_nil2 w _ c
      · have e : ∀ n, n ≤ cap → (Builtin.append_ #[22, 22] 22 #[.slice (some ⟨g, 0, none⟩) n cap, .slice none 0 c]).run Tryz.prog w = .ok (.slice (some ⟨g, 0, none⟩) n cap) w := fun n hn => by
          simp [Builtin.append_, run_underlying Tryz.underlying22, sizeOf, typeInfo, hi, Builtin.lenOf, Builtin.firstCells, loadCells, hn, storeCells]
          try exact ⟨rfl, rfl⟩
        exact e _ h3
    refine ⟨v, w, hr v hown, by rw [List.append_nil]; exact hown, Turned.refl _ _, .inl rfl⟩
  | some a =>
    have hnews : ∀ j u, (xs.map Value.string)[j]? = some u → w.cell? (a.add j) = some u := fun j u hu => by
      rw [List.getElem?_map] at hu
      cases hj : xs[j]? with
      | none => rw [hj] at hu; cases hu
      | some s =>
        rw [hj] at hu
        injection hu with hu
        obtain ⟨hjl, hjs⟩ := List.getElem?_eq_some_iff.1 hj
        rcases hcs with h | ⟨b, off, e, _, hc⟩
        · rw [h] at hjl; simp at hjl
        · injection e with e
          subst e
          have := hc j hjl
          rw [Addr.add_lit, this, ← hu]
          simp [List.getD, hj]
    obtain ⟨v', w', h1, h2, h3, h4, _⟩ := run_append_far (P := Tryz.prog) w base 22 22 9 i0 (.string ByteArray.empty) 1 16 Tryz.underlying22 hi hz0 hz1 hz2 rfl (by decide) v ss.length (ss.map Value.string) hown a xs.length c (xs.map Value.string) (by simp)
      hnews (fun u hu => by simp at hu; obtain ⟨s, _, rfl⟩ := hu; rfl) (by unfold maxLen; omega) (by omega) hb
    exact ⟨v', w', h1, by unfold OwnT; rw [List.length_append, List.map_append]; exact h2, h3, h4⟩

/-- The two orders of putting one text into its place. -/
theorem sortStep {W : World} {o1 o2 : Value} {l1 l2 : List ByteArray} {x : ByteArray} (h1 : TextsAt W o1 l1) (h2 : TextsAt W o2 l2) (hl : l1.length + 1 + l2.length ≤ 1000000) :
    (∃ a1 w1 a2 w2 a3 w3, (Builtin.append_ #[22, 22] 22 #[.slice none 0 0, o1]).run Tryz.prog W = .ok a1 w1 ∧
      (Builtin.append_ #[22, 22] 22 #[a1, .slice (some ⟨w1.heap.size, 0, none⟩) 1 1]).run Tryz.prog (w1.alloc (.cells #[.string x] 9)) = .ok a2 w2 ∧
      (Builtin.append_ #[22, 22] 22 #[a2, o2]).run Tryz.prog w2 = .ok a3 w3 ∧ OwnT w3 W.heap.size a3 (l1 ++ [x] ++ l2) ∧ Below W.heap.size W w1 ∧ Below W.heap.size W w2 ∧ Below W.heap.size W w3) ∧
    (∃ a1 w1 a2 w2 a3 w3, (Builtin.append_ #[22, 22] 22 #[.slice none 0 0, o1]).run Tryz.prog (W.alloc (.cells #[.string x] 9)) = .ok a1 w1 ∧
      (Builtin.append_ #[22, 22] 22 #[a1, .slice (some ⟨W.heap.size, 0, none⟩) 1 1]).run Tryz.prog w1 = .ok a2 w2 ∧
      (Builtin.append_ #[22, 22] 22 #[a2, o2]).run Tryz.prog w2 = .ok a3 w3 ∧ OwnT w3 W.heap.size a3 (l1 ++ [x] ++ l2) ∧ Below W.heap.size W w1 ∧ Below W.heap.size W w2 ∧ Below W.heap.size W w3) := by
  refine ⟨?_, ?_⟩
  · obtain ⟨a1, w1, r1, q1, b1⟩ := first_run o1 l1 W h1 (by omega)
    obtain ⟨a2, w2, r2, q2, b2⟩ := appendT (World.ownsRow.alloc q1 (.cells #[.string x] 9)) x w1.heap.size 9 (heap_alloc_new _ _) (by omega) (by have := b1.size; simp; omega) 22
    have b2' : Below W.heap.size W w2 := (b1.alloc b1.size _).trans b2
    obtain ⟨a3, w3, r3, q3, t3, e3⟩ := appendTs q2 (h2.below b2') (by simp; omega) b2'.size
    refine ⟨a1, w1, a2, w2, a3, w3, r1, r2, r3, q3, b1, b2', b2'.trans (t3.below b2'.size fun k _ hk => ?_)⟩
    exact (q3.lt k hk).1
  · have b0 : Below W.heap.size W (W.alloc (.cells #[.string x] 9)) := (Below.refl _ _).alloc (Nat.le_refl _) _
    obtain ⟨a1, w1, r1, q1, b1⟩ := first_run o1 l1 _ (h1.below b0) (by omega)
    have hsz : (W.alloc (.cells #[.string x] 9)).heap.size = W.heap.size + 1 := by simp
    have hg : w1.heap[W.heap.size]? = some (.cells #[.string x] 9 (0, 0)) := (b1.block W.heap.size (by rw [hsz]; omega)).trans (heap_alloc_new _ _)
    have b1' : Below W.heap.size W w1 := b0.trans (b1.mono b0.size)
    have q1' : OwnT w1 W.heap.size a1 l1 := own_le q1 fun k hk => by have := (q1.lt k hk).1; omega
    obtain ⟨a2, w2, r2, q2, b2⟩ := appendT q1' x W.heap.size 9 hg (by omega) b1'.size 22
    have b2' : Below W.heap.size W w2 := b1'.trans b2
    obtain ⟨a3, w3, r3, q3, t3, e3⟩ := appendTs q2 (h2.below b2') (by simp; omega) b2'.size
    refine ⟨a1, w1, a2, w2, a3, w3, r1, r2, r3, q3, b1', b2', b2'.trans (t3.below b2'.size fun k _ hk => ?_)⟩
    exact (q3.lt k hk).1

/-- A text of a row that reads as texts. -/
theorem TextsAt.cellAt {w : World} {a : Option Addr} {n c : Nat} {ss : List ByteArray} (h : TextsAt w (.slice a n c) ss) {k : Nat} (hk : k < ss.length) : ∃ b off, a = some ⟨b, off, none⟩ ∧ n = ss.length ∧ b < w.heap.size ∧ ∀ j, j < ss.length → w.cell? ⟨b, off + j, none⟩ = some (.string (ss.getD j ByteArray.empty)) := by
  obtain ⟨a', c', e, _, _, h3⟩ := h
  injection e with e1 e2 _
  subst e1
  obtain ⟨b, off, e3, h4, h5⟩ := TextsAt.ne h3 hk
  exact ⟨b, off, e3, e2, h4, h5⟩

/-- The two pieces of an own row. -/
theorem ownT_pieces {w : World} {base n k : Nat} {a : Option Addr} {c : Nat} {ss : List ByteArray} (h : OwnT w base (.slice a n c) ss) (hl : ss.length ≤ 1000000) (hs : ∀ s ∈ ss, s.size ≤ 140737488351232) (hk : k ≤ n) (h0 : n = 0 → a = none ∧ c = 0) :
    TextsAt w (.slice a k c) (ss.take k) ∧ (n = 0 ∨ (∃ g, a = some ⟨g, 0, none⟩ ∧ n ≤ c ∧ TextsAt w (.slice (if c = k then some ⟨g, 0, none⟩ else some ⟨g, k, none⟩) (n - k) (c - k)) (ss.drop k))) := by
  have hn : n = ss.length := by
    obtain ⟨a', c', e⟩ := own_form h
    injection e
  rcases Nat.eq_zero_or_pos n with hz | hz
  · obtain ⟨rfl, rfl⟩ := h0 hz
    have hss : ss = [] := List.eq_nil_of_length_eq_zero (by omega)
    subst hss
    obtain rfl : k = 0 := by omega
    exact ⟨⟨_, _, rfl, by simp, by simp, .inl rfl⟩, .inl hz⟩
  · obtain ⟨g, cap, e, _, hg, hc, hcell⟩ := own_row_cell h (by omega)
    injection e with e1 e2 e3
    subst e1 e3
    have hcell' : ∀ j, j < ss.length → w.cell? ⟨g, j, none⟩ = some (.string (ss.getD j ByteArray.empty)) := fun j hj => hcell j _ (by simp [List.getD, hj])
    have hlt : (ss.take k).length = k := by rw [List.length_take]; omega
    have hld : (ss.drop k).length = n - k := by rw [List.length_drop]; omega
    refine ⟨⟨_, _, by rw [hlt], by omega, fun s h => hs s (List.mem_of_mem_take h), ?_⟩, .inr ⟨g, rfl, by omega, _, _, by rw [hld], by omega, fun s h => hs s (List.mem_of_mem_drop h), ?_⟩⟩
    · by_cases hk0 : k = 0
      · exact .inl (List.eq_nil_of_length_eq_zero (by omega))
      · refine .inr ⟨g, 0, rfl, hg, fun j hj => ?_⟩
        rw [hlt] at hj
        rw [Nat.zero_add, hcell' j (by omega)]
        simp [List.getD, hj]
    · by_cases hkn : k = n
      · exact .inl (List.eq_nil_of_length_eq_zero (by omega))
      · refine .inr ⟨g, k, by rw [if_neg (by omega)], hg, fun j hj => ?_⟩
        rw [hld] at hj
        rw [hcell' (k + j) (by omega)]
        simp [List.getD, List.getElem?_drop]
end Go.Proofs.YtgbknjpjhkegdaaGreat
