/-
  NameSets: the state ahead of the Book; steps of one call.
-/
import Derived.Test.YtgbknjpjhkegdaaGreatSetsB
namespace Go.Proofs.YtgbknjpjhkegdaaGreat
open Go.RowKit Go.Maps Go.WideMaps
set_option linter.unusedVariables false

/-- The state ahead of the Book: all of it from block H on. -/
structure PreNow (W0 : World) (H sb : Nat) (own : Option Nat) (wr : World) (p : Option Nat) (D : DU) (nv : Value) (N : List ByteArray) : Prop where
  below : Below W0.heap.size W0 wr
  h0 : W0.heap.size ≤ H
  lo : H ≤ sb
  set : SetAt wr sb p D
  mne : ∀ m, p = some m → m ≠ sb ∧ H ≤ m
  tidy : Tidy D
  str : StrMap D
  fits : Fits D
  now : OwnT wr (sb + 1) nv N
  oc : ∀ g, own = some g → H ≤ g ∧ g ≠ sb ∧ ∃ cur t fr, wr.heap[g]? = some (.cells cur t fr) ∧ wr.cell? ⟨g, 0, none⟩ = some (.pointer (some ⟨sb, 0, none⟩))

section
variable {W0 wr w' : World} {H sb bk n : Nat} {own p : Option Nat} {xb : Option (Nat × Array Value)} {D : DU} {nv : Value} {N : List ByteArray}

theorem PreNow.turn {T : Nat → Prop} (h : PreNow W0 H sb own wr p D nv N) (hw : Turned T wr w') (hT : ∀ k, T k → W0.heap.size ≤ k ∧ k < H) : PreNow W0 H sb own w' p D nv N := by
  have hn : ∀ k, H ≤ k → ¬ T k := fun k hk ht => by have := (hT k ht).2; omega
  have hlo := h.lo
  refine ⟨h.below.trans (hw.below h.below.size fun k _ hk => (hT k hk).1), h.h0, h.lo, h.set.turns (turns_of_turned hw) (hn sb h.lo) (fun m hm => hn m (h.mne m hm).2), h.mne, h.tidy, h.str, h.fits, own_turned h.now hw (fun k hk => hn k (by have := (h.now.lt k hk).1; omega)), fun g hg => ?_⟩
  obtain ⟨g1, g2, cur, t, fr, g4, g5⟩ := h.oc g hg
  have hlt := (Array.getElem?_eq_some_iff.1 g4).1
  exact ⟨g1, g2, cur, t, fr, (hw.block g hlt (hn g g1)).trans g4, (hw.cell (p := ⟨g, 0, none⟩) hlt (hn g g1)).trans g5⟩
theorem PreNow.step (h : PreNow W0 H sb own wr p D nv N) (hb : Below wr.heap.size wr w') : PreNow W0 H sb own w' p D nv N :=
  h.turn (Turned.of_below hb fun _ => False) fun _ e => e.elim

theorem PreNow.book (h : PreNow W0 H sb own wr p D nv N) {Z : Array Value} (hZ : Z = (List.replicate 34 (Value.slice none 0 0)).toArray) : SetsNow W0 sb wr.heap.size own none (wr.alloc (.cells Z 44)) p D nv N 0 := by
  have hb : Below wr.heap.size wr (wr.alloc (.cells Z 44)) := (Below.refl _ _).alloc (Nat.le_refl _) _
  have h2 := h.step hb
  have hsb := h.set.1
  have h00 := h.h0
  have hlo := h.lo
  refine ⟨h2.below, by omega, hsb, h2.set, fun m hm => ⟨(h.mne m hm).1, by have := (h.mne m hm).2; omega, fun e => ?_⟩, h.tidy, h.str, h.fits, h2.now, fun e => ?_, BookAt.new hZ, fun g hg => ?_, fun q hq => by cases hq⟩
  · rcases h.set.2.2.2 with ⟨h0, _⟩ | ⟨m', hm', h1⟩
    · rw [h0] at hm; cases hm
    · rw [hm] at hm'
      injection hm' with hm'
      have := h1.lt
      omega
  · have := (h.now.lt _ e).2
    omega
  · obtain ⟨g1, g2, cur, t, fr, g4, g5⟩ := h2.oc g hg
    obtain ⟨_, _, _, _, _, g6, _⟩ := h.oc g hg
    have hlt := (Array.getElem?_eq_some_iff.1 g6).1
    exact ⟨hlt, by omega, g2, cur, t, fr, g4, g5⟩

/-- Another list is now in order. -/
theorem SetsNow.renow (h : SetsNow W0 sb bk own xb wr p D nv N n) {nv' : Value} {N' : List ByteArray} {B : Nat} (hn : OwnT wr B nv' N') (hB : bk < B) : SetsNow W0 sb bk own xb wr p D nv' N' n :=
  ⟨h.below, h.lo, h.hi, h.set, h.mne, h.tidy, h.str, h.fits, own_le hn (fun k hk => by have := (hn.lt k hk).1; have := h.hi; omega), fun e => by have := (hn.lt _ e).1; omega, h.book, h.oc, h.xc⟩
/-- The call at hand. -/
theorem SetsNow.call (h : SetsNow W0 sb bk own xb wr p D nv N n) {cx : Array Value} : SetsNow W0 sb bk own (some (wr.heap.size, cx)) (wr.alloc (.cells cx 62)) p D nv N n := by
  have h2 := h.step ((Below.refl wr.heap.size wr).alloc (Nat.le_refl _) (.cells cx 62))
  exact ⟨h2.below, h2.lo, h2.hi, h2.set, h2.mne, h2.tidy, h2.str, h2.fits, h2.now, h2.nbk, h2.book, h2.oc, fun q hq => by
    injection hq with hq
    subst hq
    exact ⟨h.book.lt, heap_alloc_new _ _⟩⟩
theorem SetsNow.nocall (h : SetsNow W0 sb bk own xb wr p D nv N n) : SetsNow W0 sb bk own none wr p D nv N n :=
  ⟨h.below, h.lo, h.hi, h.set, h.mne, h.tidy, h.str, h.fits, h.now, h.nbk, h.book, h.oc, fun q hq => by cases hq⟩

/-- The texts of the set, as they are handed about. -/
theorem SetsNow.texts (h : SetsNow W0 sb bk own xb wr p D nv N n) (hl : N.length ≤ 1000000) (hs : ∀ s ∈ N, s.size ≤ 140737488351232) : TextsAt wr nv N := ownT_texts h.now hl hs
theorem SetsNow.callAt (h : SetsNow W0 sb bk own xb wr p D nv N n) {q : Nat × Array Value} (hq : xb = some q) (j : Nat) : wr.cell? ⟨q.1, j, none⟩ = q.2[j]? := cell_of_row _ _ _ _ _ (0, 0) (h.xc q hq).2

theorem sizes_of {D : DU} (h : StrMap D) (hf : Fits D) : ∀ s ∈ sortedS D, s.size ≤ 140737488351232 := fun s hs => by
  have h1 := (mem_strKeys h s.data.toList).2 (by rw [ofL_of]; exact (mem_sortedS h s).1 hs)
  have := hf _ h1
  simpa using this

theorem SetsNow.added (h : SetsNow W0 sb bk own xb wr p D nv N n) {ss : List ByteArray} (hsz : ∀ s ∈ ss, s.size ≤ 140737488351232) {e : Ending} (hp : AddPost wr sb p D ss e w') :
    e = .returned (.int .i64 ((Maps.size (addAll D ss) : Int) - Maps.size D)) ∧ ∃ p', SetsNow W0 sb bk own xb w' p' (addAll D ss) nv N n := by
  obtain ⟨he, ht, m, hm, hs⟩ := hp
  refine ⟨he, some m, h.turn ht hs (fun m' hm' => ?_) (tidy_addAll ss D h.tidy) (strMap_addAll ss D h.str) (fits_addAll ss D h.fits h.tidy hsz)⟩
  injection hm' with hm'
  subst hm'
  rcases hm with hm | ⟨hm, hge⟩
  · exact h.mne m hm
  · have := h.set.1
    have := h.below.size
    have := h.book.lt
    exact ⟨by omega, by omega, by omega⟩
theorem SetsNow.deleted (h : SetsNow W0 sb bk own xb wr p D nv N n) {ss : List ByteArray} {e : Ending} (hp : DelPost wr sb p D ss e w') :
    e = .returned (.int .i64 ((Maps.size D : Int) - Maps.size (delAll D ss))) ∧ SetsNow W0 sb bk own xb w' p (delAll D ss) nv N n := by
  obtain ⟨he, ht, hs⟩ := hp
  exact ⟨he, h.turn ht hs h.mne (tidy_delAll ss D h.tidy) (strMap_delAll ss D h.str) (fits_delAll ss D h.fits h.tidy)⟩
/-- The call's texts lie in no block of the set. -/
theorem SetsNow.away (h : SetsNow W0 sb bk own xb wr p D nv N n) {v : Value} {ss : List ByteArray} (hv : TextsAt W0 v ss) : ∀ q off n c, v = .slice (some ⟨q, off, none⟩) n c → ss = [] ∨ (q ≠ sb ∧ p ≠ some q) := fun q off n c e => by
  obtain ⟨a', c', e', _, _, h3⟩ := hv
  rcases h3 with h3 | ⟨b, off', e2, hlt, _⟩
  · exact .inl h3
  · rw [e2] at e'
    rw [e'] at e
    injection e with e1 _ _
    injection e1 with e1
    injection e1 with e1 _ _
    subst e1
    exact .inr ⟨by have := h.lo; omega, fun hp => by have := (h.mne _ hp).2.1; omega⟩
end
end Go.Proofs.YtgbknjpjhkegdaaGreat
