/-
  NameSets: what the walk of one call leans on.
-/
import Derived.Test.YtgbknjpjhkegdaaGreatSetsC
namespace Go.Proofs.YtgbknjpjhkegdaaGreat
open Go.RowKit Go.Maps Go.WideMaps
set_option linter.unusedVariables false

/-- Two appends behind each other, in either order of their making. -/
theorem snocStep {W : World} {o1 : Value} {l1 : List ByteArray} {x : ByteArray} (h1 : TextsAt W o1 l1) (hl : l1.length + 1 ≤ 1000000) :
    (∃ a1 w1 a2 w2, (Builtin.append_ #[22, 22] 22 #[.slice none 0 0, o1]).run Tryz.prog W = .ok a1 w1 ∧
      (Builtin.append_ #[22, 22] 22 #[a1, .slice (some ⟨w1.heap.size, 0, none⟩) 1 1]).run Tryz.prog (w1.alloc (.cells #[.string x] 9)) = .ok a2 w2 ∧
      OwnT w2 W.heap.size a2 (l1 ++ [x]) ∧ Below W.heap.size W w1 ∧ Below W.heap.size W w2) ∧
    (∃ a1 w1 a2 w2, (Builtin.append_ #[22, 22] 22 #[.slice none 0 0, o1]).run Tryz.prog (W.alloc (.cells #[.string x] 9)) = .ok a1 w1 ∧
      (Builtin.append_ #[22, 22] 22 #[a1, .slice (some ⟨W.heap.size, 0, none⟩) 1 1]).run Tryz.prog w1 = .ok a2 w2 ∧
      OwnT w2 W.heap.size a2 (l1 ++ [x]) ∧ Below W.heap.size W w1 ∧ Below W.heap.size W w2) := by
  refine ⟨?_, ?_⟩
  · obtain ⟨a1, w1, r1, q1, b1⟩ := first_run o1 l1 W h1 (by omega)
    obtain ⟨a2, w2, r2, q2, b2⟩ := appendT (World.ownsRow.alloc q1 (.cells #[.string x] 9)) x w1.heap.size 9 (heap_alloc_new _ _) (by omega) (by have := b1.size; simp; omega) 22
    exact ⟨a1, w1, a2, w2, r1, r2, q2, b1, (b1.alloc b1.size _).trans b2⟩
  · have b0 : Below W.heap.size W (W.alloc (.cells #[.string x] 9)) := (Below.refl _ _).alloc (Nat.le_refl _) _
    obtain ⟨a1, w1, r1, q1, b1⟩ := first_run o1 l1 _ (h1.below b0) (by omega)
    have hsz : (W.alloc (.cells #[.string x] 9)).heap.size = W.heap.size + 1 := by simp
    have hg : w1.heap[W.heap.size]? = some (.cells #[.string x] 9 (0, 0)) := (b1.block W.heap.size (by rw [hsz]; omega)).trans (heap_alloc_new _ _)
    have b1' : Below W.heap.size W w1 := b0.trans (b1.mono b0.size)
    have q1' : OwnT w1 W.heap.size a1 l1 := own_le q1 fun k hk => by have := (q1.lt k hk).1; omega
    obtain ⟨a2, w2, r2, q2, b2⟩ := appendT q1' x W.heap.size 9 hg (by omega) b1'.size 22
    exact ⟨a1, w1, a2, w2, r1, r2, q2, b1', b1'.trans b2⟩

/-- All texts of a set are short. -/
def ShortSet (D : DU) : Prop := ∀ y, hasS D y = true → y.size ≤ 100000
theorem short_add {D : DU} (h : ShortSet D) (t : Tidy D) {ss : List ByteArray} (hs : ∀ s ∈ ss, s.size ≤ 100000) : ShortSet (addAll D ss) := fun y hy => by
  rcases (hasS_addAll y ss D t.isMap).1 hy with h1 | h1
  · exact h y h1
  · exact hs y h1
theorem short_del {D : DU} (h : ShortSet D) (ss : List ByteArray) : ShortSet (delAll D ss) := fun y hy => h y ((hasS_delAll y ss D).1 hy).1
theorem memB_sorted {D : DU} (h : StrMap D) (y : ByteArray) : memB y (sortedS D) = hasS D y := by
  cases hb : memB y (sortedS D)
  · have := memB_false.1 hb
    rw [mem_sortedS h] at this
    cases hh : hasS D y
    · rfl
    · exact absurd hh this
  · have := (mem_sortedS h y).1 (memB_true.1 hb)
    rw [this]
theorem addAll_take (D : DU) {ss : List ByteArray} {j : Nat} (h : j < ss.length) : addAll D (ss.take (j + 1)) = addOne (addAll D (ss.take j)) (ss.getD j ByteArray.empty) := by
  rw [take_snoc h, addAll_snoc]

section
variable {W0 wr w' : World} {sb bk n : Nat} {own p : Option Nat} {xb : Option (Nat × Array Value)} {D : DU} {nv : Value} {N : List ByteArray}
theorem SetsNow.bkLt (h : SetsNow W0 sb bk own xb wr p D nv N n) : bk < wr.heap.size := h.book.lt
/-- What Has answers. -/
theorem SetsNow.has (h : SetsNow W0 sb bk own xb wr p D nv N n) (x : ByteArray) (hx : x.size ≤ 140737488351232) : Calls Tryz.prog 23 #[.pointer (some ⟨sb, 0, none⟩), .string x] wr fun e w' => e = .returned (.bool (hasS D x)) ∧ Below wr.heap.size wr w' := has_any sb p D x wr h.set hx
theorem SetsNow.len (h : SetsNow W0 sb bk own xb wr p D nv N n) : Calls Tryz.prog 25 #[.pointer (some ⟨sb, 0, none⟩)] wr fun e w' => e = .returned (.int .i64 (Maps.size D)) ∧ wr = w' := len_any sb p D wr h.set
theorem SetsNow.listed (h : SetsNow W0 sb bk own xb wr p D nv N n) (hs : Maps.size D ≤ 1000000) : Calls Tryz.prog 24 #[.pointer (some ⟨sb, 0, none⟩)] wr fun e w' => ∃ v, e = .returned v ∧ NewTexts wr.heap.size w' v (sortedS D) ∧ Below wr.heap.size wr w' := list_any sb p D wr h.set (by omega) h.fits
theorem SetsNow.add (h : SetsNow W0 sb bk own xb wr p D nv N n) {v : Value} {ss : List ByteArray} (hv : TextsAt W0 v ss) (hs : Maps.size D + ss.length ≤ 1000000) : Calls Tryz.prog 21 #[.pointer (some ⟨sb, 0, none⟩), v] wr fun e w' => e = .returned (.int .i64 ((Maps.size (addAll D ss) : Int) - Maps.size D)) ∧ ∃ p', SetsNow W0 sb bk own xb w' p' (addAll D ss) nv N n :=
  (add_any sb p D v ss wr h.set (fun m hm => (h.mne m hm).1) (hv.below h.below) (h.away hv) (by omega)).mono fun e w' hp => h.added (by obtain ⟨_, _, _, _, z, _⟩ := hv; exact z) hp
theorem SetsNow.del (h : SetsNow W0 sb bk own xb wr p D nv N n) {v : Value} {ss : List ByteArray} (hv : TextsAt W0 v ss) (hs : Maps.size D ≤ 1000000) : Calls Tryz.prog 22 #[.pointer (some ⟨sb, 0, none⟩), v] wr fun e w' => e = .returned (.int .i64 ((Maps.size D : Int) - Maps.size (delAll D ss))) ∧ SetsNow W0 sb bk own xb w' p (delAll D ss) nv N n :=
  (del_any sb p D v ss wr h.set (fun m hm => (h.mne m hm).1) (hv.below h.below) (h.away hv) (by omega)).mono fun e w' hp => h.deleted hp
/-- The Book takes what List has answered. -/
theorem SetsNow.kept {w1 : World} (h : SetsNow W0 sb bk own xb wr p D nv N n) {v : Value} (hb : Below wr.heap.size wr w1) (hv : NewTexts wr.heap.size w1 v (sortedS D)) (hn : n < 250) (hl : Maps.size D ≤ 300000) (hs : ShortSet D) :
    Calls Tryz.prog 12 #[.pointer (some ⟨bk, 0, none⟩), v] w1 fun e w' => e = .returned (.tuple #[]) ∧ SetsNow W0 sb bk own xb w' p D nv N (n + 1) ∧ TextsAt w' v (sortedS D) := by
  have ho := own_of_newT hv
  have hsz : ∀ s ∈ sortedS D, s.size ≤ 140737488351232 := fun s hsm => by have := hs s ((mem_sortedS h.str s).1 hsm); omega
  have hlen := sortedS_length D
  refine (h.book.add hb ho hn (by omega) hsz).mono ?_
  rintro e w' ⟨rfl, hbk, ht⟩
  have h1 := h.step hb
  refine ⟨rfl, h1.list (w1 := w1) ht hbk, ownT_texts (own_turned ho ht fun k hk hf => ?_) (by omega) hsz⟩
  obtain ⟨cur, e⟩ := own_type ho k hk
  rcases hf with rfl | ⟨_, cur', e'⟩
  · have := (ho.lt _ hk).1
    have := h.book.lt
    omega
  · rw [e] at e'
    injection e' with e'
    injection e' with _ e' _
    revert e'
    decide
end
end Go.Proofs.YtgbknjpjhkegdaaGreat
