/-
  What Holidays answers: all holidays, rising, in memory of its own.
-/
import Derived.Test.YtfhpiedlhflndaaCalG
import Derived.Test.YtfhpiedlhflndaaIterP
import Derived.Shelf.AbstractIn
namespace Go.Proofs.Ytfhpiedlhflndaa
open Go.RowKit Go.Maps Go.Sort Go.Shelf CalPure

/-- slices.Sort's two contracts here, at the fence that asks nothing. -/
theorem sortsA (m : Nat) : AnyZI.SortsIn Try.prog Try.sortedA_ren Fence.wide m :=
  ⟨fun blk off cap ss W hH hblk hsz => callsIn_wide.2 (AnyM.slices_Sort_int Try.sortA blk off cap ss W hH hblk hsz),
   fun p cap W => callsIn_wide.2 (AnyM.slices_Sort_int_none Try.sortA p cap W)⟩

def sortedD (D : DU) : List Int := (intKeys D).mergeSort leI

/-- v is a slice of the numbers xs that lies in blocks from base on. -/
def NewInts (base : Nat) (w : World) (v : Value) (xs : List Int) : Prop := IntsAt w v xs ∧ ∀ a n c, v = .slice (some a) n c → base ≤ a.block ∧ a.off = 0 ∧ a.spot = none

theorem newInts_of_row {w : World} {base : Nat} {v : Value} {xs : List Int} (h : w.ownsRow base 3 1 v xs.length (xs.map encZ)) (hn : v = .slice none 0 0 ↔ xs = []) (hl : xs.length * 8 ≤ 140737488351232) (hw : ∀ x ∈ xs, (Lit.int .i64 x).wf = true) : NewInts base w v xs := by
  rcases h.2 with ⟨rfl, h0⟩ | ⟨g, cap, cur, rfl, hb, hg, h1, h2, h3, h4⟩
  · obtain rfl : xs = [] := hn.1 rfl
    exact ⟨⟨none, 0, rfl, by simp, by simp, .inl rfl⟩, fun a n c e => by simp at e⟩
  · refine ⟨⟨_, cap, rfl, hl, hw, .inr ⟨g, 0, rfl, (Array.getElem?_eq_some_iff.1 hg).1, fun j hj => ?_⟩⟩, fun a n c e => by simp at e; rw [← e.1]; exact ⟨hb, rfl, rfl⟩⟩
    rw [Nat.zero_add, World.ownsRow.cellAt h j (by omega)]
    simp [List.getD, hj]

theorem sortedD_perm (D : DU) : (sortedD D).Perm (intKeys D) := List.mergeSort_perm _ _
theorem sortedD_length (D : DU) : (sortedD D).length = Maps.size D := by
  rw [(sortedD_perm D).length_eq]
  cases D <;> simp [intKeys, Maps.size]

set_option maxHeartbeats 1000000 in
theorem holidays_any (b : Nat) (D : DU) (w : World) (hc : CalAt w b D) (hs : Maps.size D ≤ 300) :
    Calls Try.prog 13 #[.pointer (some ⟨b, 0, none⟩)] w fun e w' => ∃ v, e = .returned v ∧ NewInts w.heap.size w' v (sortedD D) ∧ Below w.heap.size w w' := by
  obtain ⟨hb, hfz, p, hcell, hmap⟩ := hc.parts
  have cK : ∀ mb W, CallsIn Fence.wide 5 Try.prog 17 #[.map mb] W fun e w' => e = .returned (.func (.func 23) #[] #[.pointer (some ⟨W.heap.size, 0, none⟩)]) ∧ w' = W.alloc (.cells #[.map mb] 37) := fun mb W => AnyZI.keys_in Try.keysA Fence.wide 5 trivial rfl mb W
  have main : Calls Try.prog 13 #[.pointer (some ⟨b, 0, none⟩)] w fun e w' => ∃ (v : Value) (ss : List Int), e = .returned v ∧ ss.Perm (intKeys D) ∧
      w'.ownsRow w.heap.size 3 1 v ss.length ((ss.mergeSort (fun x y => decide (x ≤ y))).map encZ) ∧ (v = .slice none 0 0 ↔ ss = []) ∧ Below w.heap.size w w' := by
    refine (callsIn_wide (n := 6)).1 ?_
    have hseq : SeqGives Fence.wide 2 Try.prog 23 #[.pointer (some ⟨w.heap.size, 0, none⟩)] encZ (fun ss => ss.Perm (intKeys D)) (Maps.size D) (w.alloc (.cells #[.map p] 37)) := by
      rcases hmap with ⟨rfl, rfl⟩ | ⟨m, n, rfl, hm, ho⟩
      · have := AnyZI.keys_gives_nil (ρ := Try.keysA_ren) { Try.keysA with } Fence.wide 2 trivial rfl w.heap.size (w.alloc (.cells #[.map none] 37)) (by simp) (by simp)
        have e : (fun ss : List Int => ss.Perm (intKeys (DataW.map [] : DU))) = fun ss => ss = [] := by
          funext ss
          exact propext ⟨fun h => List.Perm.eq_nil h, fun h => by rw [h]; exact List.Perm.refl _⟩
        rw [e]
        exact this
      · exact AnyZI.keys_gives (ρ := Try.keysA_ren) { Try.keysA with } Fence.wide _ trivial rfl (by omega) w.heap.size m n D _ (by simp) (by simp) (ownsMap_below ho ((Below.refl w.heap.size w).alloc (Nat.le_refl _) _) hm)
    have cS := AnyZI.sorted_in Try.sortedA Fence.wide 5 trivial trivial trivial trivial rfl (by omega) (sortsA _) (enters_of Try.func22 (by kernel_rfl) rfl) 23 #[.pointer (some ⟨w.heap.size, 0, none⟩)] trivial (enters_of Try.func23 (by kernel_rfl) rfl) _ _ (by unfold maxLen; omega) (by omega) _ hseq
    change CallsIn _ _ Try.prog 16 _ _ _ at cS
    clear hmap hseq
    have hfK : Fence.wide.fn 17 := trivial
    have hfS : Fence.wide.fn 16 := trivial
    refine callsIn_of_wp Try.func13 rfl trivial ?_ rfl
    simp only [Try.ntmps13, List.size_toArray, List.length_cons, List.length_nil, Nat.reduceAdd, Nat.reduceSub, Array.replicate_succ, Array.replicate_zero, List.push_toArray, List.append_toArray, List.nil_append, List.cons_append]
    gi_wp2_with (first
      | (gi_at_call 17; refine (cK _ _).mono ?_; rintro e w' ⟨rfl, rfl⟩)
      | (gi_at_call 16; refine cS.mono ?_; rintro e w' ⟨v, ss, rfl, hS, hrow, hnil, hb⟩))
    go_ret
    exact ⟨v, ss, rfl, hS, ownsRow_base_a hrow (by simp), hnil, ((Below.refl _ w).alloc (Nat.le_refl _) _).trans (hb.mono (by simp))⟩
  have hwf : ∀ x ∈ intKeys D, (Lit.int .i64 x).wf = true := by
    rcases hmap with ⟨rfl, rfl⟩ | ⟨m, n, rfl, hm, ho⟩
    · intro x hx; simp [intKeys] at hx
    · exact intKeys_wf ho Try.underlying3
  refine main.mono fun e w' ⟨v, ss, he, hS, hrow, hnil, hbl⟩ => ?_
  have e1 : ss.mergeSort (fun x y => decide (x ≤ y)) = sortedD D := mergeSort_of_perm_i hS
  have e2 : ss.length = (sortedD D).length := by rw [hS.length_eq, (sortedD_perm D).length_eq]
  rw [e1, e2] at hrow
  refine ⟨v, he, newInts_of_row hrow ?_ ?_ (fun x hx => hwf x ((sortedD_perm D).mem_iff.1 hx)), hbl⟩
  · rw [hnil]
    exact ⟨fun h => List.eq_nil_of_length_eq_zero (by rw [← e2, h]; rfl), fun h => List.eq_nil_of_length_eq_zero (by rw [e2, h]; rfl)⟩
  · rw [sortedD_length]; omega

end Go.Proofs.Ytfhpiedlhflndaa
