/-
  The Book: lists of one kind, and their copies.
-/
import Derived.Test.YtgbknjpjhkegdaaGreatBookP
import Derived.Laws.World
import Derived.Deep.RegionHeld
namespace Go.Proofs.YtgbknjpjhkegdaaGreat
open Go.RowKit

/-- Lists of elements of type te (size cells each): their heads (of type th) lie in an own row at tv; each is an own row; no two of them lie in one block, and none in the Book's own. -/
structure Lists {α : Type} (cs : α → List Value) (te size th base bk : Nat) (w : World) (tv : Value) (L : List (Value × List α)) : Prop where
  row : w.ownsRow base th 1 tv L.length (L.map (·.1))
  rowfar : tv.ownBlock ≠ some bk
  each : ∀ x ∈ L, w.ownsRow base te size x.1 x.2.length (x.2.flatMap cs)
  far : ∀ v ∈ L.map (·.1), v.ownBlock ≠ some bk
  apart : (L.map (·.1)).Pairwise fun v u => ∀ k, v.ownBlock = some k → u.ownBlock ≠ some k

section
variable {α : Type} {cs : α → List Value} {te size th base bk : Nat} {w w' : World} {tv tv' : Value} {L : List (Value × List α)}

theorem Lists.nil (w : World) : Lists cs te size th base bk w (.slice none 0 0) ([] : List (Value × List α)) := ⟨World.ownsRow_nil _ _ _ _, by simp [Value.ownBlock], by simp, by simp, by simp⟩

theorem Lists.keep {T : Nat → Prop} (h : Lists cs te size th base bk w tv L) (hw : Turned T w w') (h1 : ∀ k, tv.ownBlock = some k → ¬ T k) (h2 : ∀ x ∈ L, ∀ k, x.1.ownBlock = some k → ¬ T k) : Lists cs te size th base bk w' tv L :=
  ⟨own_turned h.row hw h1, h.rowfar, fun x hx => own_turned (h.each x hx) hw (h2 x hx), h.far, h.apart⟩
theorem Lists.below (h : Lists cs te size th base bk w tv L) (hw : Below w.heap.size w w') : Lists cs te size th base bk w' tv L :=
  h.keep (Turned.of_below hw fun _ => False) (fun _ _ e => e) fun _ _ _ _ e => e

theorem Lists.head (h : Lists cs te size th base bk w tv L) (h0 : 0 < L.length) : ∃ g cap, tv = .slice (some ⟨g, 0, none⟩) L.length cap ∧ L.length ≤ cap ∧ base ≤ g ∧ g < w.heap.size ∧ g ≠ bk ∧ ∀ i x, L[i]? = some x → w.cell? ⟨g, i, none⟩ = some x.1 := by
  obtain ⟨g, cap, e, h1, h2, h3, h4⟩ := own_row_cell h.row h0
  refine ⟨g, cap, e, h3, h1, h2, fun e' => h.rowfar (by rw [e, ← e']; rfl), fun i x hx => h4 i x.1 (by rw [List.getElem?_map, hx]; rfl)⟩

/-- A list in an old block of the right type is apart from the row of heads. -/
theorem Lists.unlike (h : Lists cs te size th base bk w tv L) (he : te ≠ th) : ∀ x ∈ L, ∀ k, x.1.ownBlock = some k → tv.ownBlock ≠ some k := fun x hx => own_unlike (h.each x hx) h.row he

/-- One more list: behind the append onto the row of heads. -/
theorem Lists.snoc (h : Lists cs te size th base bk w tv L) (he : te ≠ th) {x : Value × List α} (hx : w.ownsRow base te size x.1 x.2.length (x.2.flatMap cs)) (hf : x.1.ownBlock ≠ some bk) (ha : ∀ y ∈ L, ∀ k, y.1.ownBlock = some k → x.1.ownBlock ≠ some k)
    (hrow : w'.ownsRow base th 1 tv' (L.length + 1) (L.map (·.1) ++ [x.1])) (hw : Turned (fun k => tv'.ownBlock = some k) w w') (hat : tv'.ownBlock = tv.ownBlock ∨ tv'.ownBlock = some w.heap.size) (hbk : bk < w.heap.size) :
    Lists cs te size th base bk w' tv' (L ++ [x]) := by
  have hne : ∀ {v : Value} {n : Nat} {xs : List Value}, w.ownsRow base te size v n xs → ∀ k, v.ownBlock = some k → ¬ tv'.ownBlock = some k := fun hv k hk e => by
    rcases hat with e' | e'
    · exact own_unlike hv h.row he k hk (e'.symm.trans e)
    · have := (hv.lt k hk).2
      rw [e'] at e
      injection e with e
      omega
  refine ⟨by rw [List.length_append, List.map_append]; exact hrow, ?_, ?_, ?_, ?_⟩
  · rcases hat with e' | e'
    · rw [e']; exact h.rowfar
    · rw [e']
      intro e
      injection e with e
      omega
  · intro y hy
    rcases List.mem_append.1 hy with hy | hy
    · exact own_turned (h.each y hy) hw (hne (h.each y hy))
    · obtain rfl := List.mem_singleton.1 hy
      exact own_turned hx hw (hne hx)
  · intro y hy
    rw [List.map_append] at hy
    rcases List.mem_append.1 hy with hy | hy
    · exact h.far y hy
    · obtain rfl := List.mem_singleton.1 hy
      exact hf
  · rw [List.map_append, List.pairwise_append]
    refine ⟨h.apart, List.pairwise_singleton _ _, fun y hy z hz => ?_⟩
    obtain rfl := List.mem_singleton.1 hz
    obtain ⟨y', hy', rfl⟩ := List.mem_map.1 hy
    exact ha y' hy'

theorem Lists.far' (h : Lists cs te size th base bk w tv L) : ∀ x ∈ L, x.1.ownBlock ≠ some bk := fun x hx => h.far x.1 (List.mem_map.2 ⟨x, hx, rfl⟩)
theorem Lists.other (h : Lists cs te size th base bk w tv L) {i j : Nat} {x y : Value × List α} (hx : L[i]? = some x) (hy : L[j]? = some y) (hij : i ≠ j) : ∀ k, x.1.ownBlock = some k → y.1.ownBlock ≠ some k := by
  obtain ⟨hi, rfl⟩ := List.getElem?_eq_some_iff.1 hx
  obtain ⟨hj, rfl⟩ := List.getElem?_eq_some_iff.1 hy
  have hp := List.pairwise_iff_getElem.1 h.apart
  intro k h1 h2
  rcases Nat.lt_or_gt_of_ne hij with hlt | hlt
  · have := hp i j (by simpa using hi) (by simpa using hj) hlt k (by simpa using h1)
    exact this (by simpa using h2)
  · have := hp j i (by simpa using hj) (by simpa using hi) hlt k (by simpa using h2)
    exact this (by simpa using h1)

/-- One of the lists is written anew. -/
theorem Lists.turn1 (h : Lists cs te size th base bk w tv L) (he : te ≠ th) {i : Nat} {x : Value × List α} (hx : L[i]? = some x) {ss : List α} (hw : Turned (fun k => x.1.ownBlock = some k) w w') (hrow : w'.ownsRow base te size x.1 ss.length (ss.flatMap cs)) :
    Lists cs te size th base bk w' tv (L.set i (x.1, ss)) := by
  obtain ⟨hi, hxi⟩ := List.getElem?_eq_some_iff.1 hx
  have hxm : x ∈ L := hxi ▸ List.getElem_mem hi
  have hm : (L.set i (x.1, ss)).map (·.1) = L.map (·.1) := by
    apply List.ext_getElem?
    intro j
    rw [List.getElem?_map, List.getElem?_map, List.getElem?_set]
    by_cases hij : i = j
    · subst hij
      rw [if_pos rfl, if_pos hi, hx]
      rfl
    · rw [if_neg hij]
  refine ⟨by rw [List.length_set, hm]; exact own_turned h.row hw fun k hk e => h.unlike he x hxm k e hk, h.rowfar, fun y hy => ?_, by rw [hm]; exact h.far, by rw [hm]; exact h.apart⟩
  obtain ⟨j, hj, hyj⟩ := List.mem_iff_getElem.1 hy
  rw [List.length_set] at hj
  rw [List.getElem_set] at hyj
  by_cases hij : i = j
  · rw [if_pos hij] at hyj
    subst hyj
    exact hrow
  · rw [if_neg hij] at hyj
    have hyL : L[j]? = some y := by rw [List.getElem?_eq_getElem hj, hyj]
    exact own_turned (h.each y (hyj ▸ List.getElem_mem hj)) hw fun k hk e => h.other hx hyL hij k e hk
end

/-- The Book's two rows of one kind: at its cells s and s + 1: the lists L, and the copies C. -/
structure Kind {α : Type} (cs : α → List Value) (te size th base bk s : Nat) (w : World) (tv wv : Value) (L C : List (Value × List α)) : Prop where
  c0 : w.cell? ⟨bk, s, none⟩ = some tv
  c1 : w.cell? ⟨bk, s + 1, none⟩ = some wv
  f0 : w.frozen? ⟨bk, s, none⟩ = false
  f1 : w.frozen? ⟨bk, s + 1, none⟩ = false
  lists : Lists cs te size th base bk w tv L
  copies : Lists cs te size th base bk w wv C
  two : ∀ k, tv.ownBlock = some k → wv.ownBlock ≠ some k

section
variable {α : Type} {cs : α → List Value} {te size th base bk s : Nat} {w w' : World} {tv wv tv' wv' : Value} {L C : List (Value × List α)}

theorem Kind.lt (h : Kind cs te size th base bk s w tv wv L C) : bk < w.heap.size := World.block_lt_of_cell? w ⟨bk, s, none⟩ h.c0

theorem Kind.keep {T : Nat → Prop} (h : Kind cs te size th base bk s w tv wv L C) (hw : Turned T w w') (h0 : ¬ T bk) (h1 : ∀ k, tv.ownBlock = some k → ¬ T k) (h2 : ∀ k, wv.ownBlock = some k → ¬ T k)
    (h3 : ∀ x ∈ L, ∀ k, x.1.ownBlock = some k → ¬ T k) (h4 : ∀ x ∈ C, ∀ k, x.1.ownBlock = some k → ¬ T k) : Kind cs te size th base bk s w' tv wv L C :=
  ⟨(hw.cell (p := ⟨bk, s, none⟩) h.lt h0).trans h.c0, (hw.cell (p := ⟨bk, s + 1, none⟩) h.lt h0).trans h.c1, (hw.frozen (p := ⟨bk, s, none⟩) h.lt h0).trans h.f0, (hw.frozen (p := ⟨bk, s + 1, none⟩) h.lt h0).trans h.f1, h.lists.keep hw h1 h3, h.copies.keep hw h2 h4, h.two⟩
theorem Kind.below (h : Kind cs te size th base bk s w tv wv L C) (hw : Below w.heap.size w w') : Kind cs te size th base bk s w' tv wv L C :=
  h.keep (Turned.of_below hw fun _ => False) (fun e => e) (fun _ _ e => e) (fun _ _ e => e) (fun _ _ _ _ e => e) fun _ _ _ _ e => e
/-- A store into the Book's own block. -/
theorem Lists.store {tv : Value} {L : List (Value × List α)} (h : Lists cs te size th base bk w tv L) (j : Nat) (u : Value) : Lists cs te size th base bk (w.setCell ⟨bk, j, none⟩ u) tv L :=
  h.keep (T := fun k => k = bk) (Turned.setCell (T := fun k => k = bk) (Turned.refl _ _) (p := ⟨bk, j, none⟩) rfl u) (fun k hk e => h.rowfar (by rw [hk, e])) fun x hx k hk e => h.far' x hx (by rw [hk, e])
theorem cell_store_ne {w : World} {bk i j : Nat} {u : Value} (h : i ≠ j) : (w.setCell ⟨bk, i, none⟩ u).cell? ⟨bk, j, none⟩ = w.cell? ⟨bk, j, none⟩ :=
  World.cell?_setCell_other _ _ _ _ (by simpa using h)

/-- The first step of one more list: behind the append onto the row of heads, and the store. -/
theorem Kind.add1 (h : Kind cs te size th base bk s w tv wv L C) (he : te ≠ th) {x : Value × List α} (hx : w.ownsRow base te size x.1 x.2.length (x.2.flatMap cs)) (hf : x.1.ownBlock ≠ some bk) (ha : ∀ y ∈ L, ∀ k, y.1.ownBlock = some k → x.1.ownBlock ≠ some k)
    (hrow : w'.ownsRow base th 1 tv' (L.length + 1) (L.map (·.1) ++ [x.1])) (hw : Turned (fun k => tv'.ownBlock = some k) w w') (hat : tv'.ownBlock = tv.ownBlock ∨ tv'.ownBlock = some w.heap.size) :
    Kind cs te size th base bk s (w'.setCell ⟨bk, s, none⟩ tv') tv' wv (L ++ [x]) C := by
  have hbk := h.lt
  have hnew : ∀ k, tv'.ownBlock = some k → tv.ownBlock = some k ∨ k = w.heap.size := fun k hk => by
    rcases hat with e | e
    · exact .inl (e.symm.trans hk)
    · rw [e] at hk; injection hk with hk; exact .inr hk.symm
  have hne : ∀ {v : Value} {n : Nat} {xs : List Value}, w.ownsRow base te size v n xs → ∀ k, v.ownBlock = some k → ¬ tv'.ownBlock = some k := fun hv k hk e => by
    rcases hnew k e with e' | e'
    · exact own_unlike hv h.lists.row he k hk e'
    · have := (hv.lt k hk).2
      omega
  have hbn : ¬ tv'.ownBlock = some bk := fun e => by
    rcases hnew bk e with e' | e'
    · exact h.lists.rowfar e'
    · omega
  have h0 := (hw.cell (p := ⟨bk, s, none⟩) hbk hbn).trans h.c0
  have h1 := (hw.cell (p := ⟨bk, s + 1, none⟩) hbk hbn).trans h.c1
  refine ⟨World.cell?_setCell_same _ _ _ h0, (cell_store_ne (by omega)).trans h1, (World.frozen?_setCell _ _ _ _).trans ((hw.frozen (p := ⟨bk, s, none⟩) hbk hbn).trans h.f0), (World.frozen?_setCell _ _ _ _).trans ((hw.frozen (p := ⟨bk, s + 1, none⟩) hbk hbn).trans h.f1), (h.lists.snoc he hx hf ha hrow hw hat hbk).store s tv', (h.copies.keep hw (fun k hk e => ?_) fun y hy k hk => hne (h.copies.each y hy) k hk).store s tv', fun k hk e => ?_⟩
  · rcases hnew k e with e' | e'
    · exact h.two k e' hk
    · have := (h.copies.row.lt k hk).2
      omega
  · rcases hnew k hk with e' | e'
    · exact h.two k e' e
    · have := (h.copies.row.lt k e).2
      omega
/-- The second step: the copy. -/
theorem Kind.add2 (h : Kind cs te size th base bk s w tv wv L C) (he : te ≠ th) {x : Value × List α} (hx : w.ownsRow base te size x.1 x.2.length (x.2.flatMap cs)) (hf : x.1.ownBlock ≠ some bk) (ha : ∀ y ∈ C, ∀ k, y.1.ownBlock = some k → x.1.ownBlock ≠ some k)
    (hrow : w'.ownsRow base th 1 wv' (C.length + 1) (C.map (·.1) ++ [x.1])) (hw : Turned (fun k => wv'.ownBlock = some k) w w') (hat : wv'.ownBlock = wv.ownBlock ∨ wv'.ownBlock = some w.heap.size) :
    Kind cs te size th base bk s (w'.setCell ⟨bk, s + 1, none⟩ wv') tv wv' L (C ++ [x]) := by
  have hbk := h.lt
  have hnew : ∀ k, wv'.ownBlock = some k → wv.ownBlock = some k ∨ k = w.heap.size := fun k hk => by
    rcases hat with e | e
    · exact .inl (e.symm.trans hk)
    · rw [e] at hk; injection hk with hk; exact .inr hk.symm
  have hne : ∀ {v : Value} {n : Nat} {xs : List Value}, w.ownsRow base te size v n xs → ∀ k, v.ownBlock = some k → ¬ wv'.ownBlock = some k := fun hv k hk e => by
    rcases hnew k e with e' | e'
    · exact own_unlike hv h.copies.row he k hk e'
    · have := (hv.lt k hk).2
      omega
  have hbn : ¬ wv'.ownBlock = some bk := fun e => by
    rcases hnew bk e with e' | e'
    · exact h.copies.rowfar e'
    · omega
  have h0 := (hw.cell (p := ⟨bk, s, none⟩) hbk hbn).trans h.c0
  have h1 := (hw.cell (p := ⟨bk, s + 1, none⟩) hbk hbn).trans h.c1
  refine ⟨(cell_store_ne (by omega)).trans h0, World.cell?_setCell_same _ _ _ h1, (World.frozen?_setCell _ _ _ _).trans ((hw.frozen (p := ⟨bk, s, none⟩) hbk hbn).trans h.f0), (World.frozen?_setCell _ _ _ _).trans ((hw.frozen (p := ⟨bk, s + 1, none⟩) hbk hbn).trans h.f1), (h.lists.keep hw (fun k hk e => ?_) fun y hy k hk => hne (h.lists.each y hy) k hk).store _ wv', (h.copies.snoc he hx hf ha hrow hw hat hbk).store _ wv', fun k hk e => ?_⟩
  · rcases hnew k e with e' | e'
    · exact h.two k hk e'
    · have := (h.lists.row.lt k hk).2
      omega
  · rcases hnew k e with e' | e'
    · exact h.two k hk e'
    · have := (h.lists.row.lt k hk).2
      omega
end

end Go.Proofs.YtgbknjpjhkegdaaGreat
