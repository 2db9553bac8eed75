/-
  What List and Sort answer: all texts in order, in memory of their own.
-/
import Derived.Test.YtgbknjpjhkegdaaGreatNamC
namespace Go.Proofs.YtgbknjpjhkegdaaGreat
open Go.RowKit Go.Maps Go.WideMaps Go.Sort Go.Shelf

/-- slices.Sort's two contracts here, at the fence that asks nothing. -/
theorem sortsS (m : Nat) : AnyZ.SortsIn Tryz.prog Tryz.sortedS_ren Fence.wide m :=
  ⟨fun blk off cap ss W hH hblk hsz => callsIn_wide.2 (AnyM.slices_Sort_string Tryz.sortS blk off cap ss W hH hblk hsz),
   fun p cap W => callsIn_wide.2 (AnyM.slices_Sort_string_none Tryz.sortS p cap W)⟩

def ofL (l : List UInt8) : ByteArray := ⟨l.toArray⟩
theorem ofL_toList (l : List UInt8) : (ofL l).data.toList = l := by simp [ofL]
theorem ofL_of (s : ByteArray) : ofL s.data.toList = s := by simp [ofL]

/-- The keys of a set, in order. -/
def sortedL (D : DU) : List (List UInt8) := (strKeys D).mergeSort leB
def sortedS (D : DU) : List ByteArray := (sortedL D).map ofL

/-- v is a slice of the texts ss that lies in blocks from base on. -/
def NewTexts (base : Nat) (w : World) (v : Value) (ss : List ByteArray) : Prop := TextsAt w v ss ∧ ((v = .slice none 0 0 ∧ ss = []) ∨ ∃ g c cur, v = .slice (some ⟨g, 0, none⟩) ss.length c ∧ base ≤ g ∧ w.heap[g]? = some (.cells cur 9 (0, 0)) ∧ ss.length ≤ c ∧ c ≤ maxLen ∧ cur.size = c ∧ ss ≠ [])

theorem newTexts_of_row {w : World} {base : Nat} {v : Value} {ls : List (List UInt8)} (h : w.ownsRow base 9 1 v ls.length (ls.map encStr)) (hn : v = .slice none 0 0 ↔ ls = []) (hl : ls.length * 16 ≤ 140737488351232) (hw : ∀ x ∈ ls, x.length ≤ 140737488351232) : NewTexts base w v (ls.map ofL) := by
  rcases h.2 with ⟨rfl, h0⟩ | ⟨g, cap, cur, rfl, hb, hg, h1, h2, h3, h4⟩
  · obtain rfl : ls = [] := hn.1 rfl
    exact ⟨⟨none, 0, rfl, by simp, by simp, .inl rfl⟩, .inl ⟨rfl, rfl⟩⟩
  · have hlen : (ls.map ofL).length = ls.length := List.length_map ..
    refine ⟨⟨_, cap, by rw [hlen], by rw [hlen]; exact hl, fun s hs => ?_, .inr ⟨g, 0, rfl, (Array.getElem?_eq_some_iff.1 hg).1, fun j hj => ?_⟩⟩, .inr ⟨g, cap, cur, by rw [hlen], hb, hg, by rw [hlen]; exact h1, h2, by simpa using h3, fun e => ?_⟩⟩
    · obtain ⟨x, hx, rfl⟩ := List.mem_map.1 hs
      have := hw x hx
      simpa [ofL, ByteArray.size] using this
    · rw [hlen] at hj
      rw [Nat.zero_add, World.ownsRow.cellAt h j (by omega)]
      simp [List.getD, hj, ofL, encStr]
    · have := hn.2 (List.map_eq_nil_iff.1 e)
      simp at this

theorem sortedL_perm (D : DU) : (sortedL D).Perm (strKeys D) := List.mergeSort_perm _ _
theorem sortedS_length (D : DU) : (sortedS D).length = Maps.size D := by
  unfold sortedS
  rw [List.length_map, (sortedL_perm D).length_eq]
  cases D <;> simp [strKeys, Maps.size]

/-- Every key's length is one of a text that was read. -/
def Fits (D : DU) : Prop := ∀ x ∈ strKeys D, x.length ≤ 140737488351232

theorem list_nil (w : World) : Calls Tryz.prog 24 #[.pointer none] w fun e w' => e = .returned (.slice none 0 0) ∧ w = w' := by
  go_enter Tryz.func24, Tryz.ntmps24
  go_wp2
  go_ret
  exact ⟨rfl, rfl⟩

set_option maxHeartbeats 1000000 in
theorem list_any (b : Nat) (p : Option Nat) (D : DU) (w : World) (hc : SetAt w b p D) (hs : Maps.size D ≤ 1000000000) (hf : Fits D) :
    Calls Tryz.prog 24 #[.pointer (some ⟨b, 0, none⟩)] w fun e w' => ∃ v, e = .returned v ∧ NewTexts w.heap.size w' v (sortedS D) ∧ Below w.heap.size w w' := by
  obtain ⟨hb, hfz, hcell, hmap⟩ := hc
  have cK : ∀ mb W, CallsIn Fence.wide 5 Tryz.prog 99 #[.map mb] W fun e w' => e = .returned (.func (.func 138) #[] #[.pointer (some ⟨W.heap.size, 0, none⟩)]) ∧ w' = W.alloc (.cells #[.map mb] 58) := fun mb W => AnyZ.keys_in Tryz.keysS Fence.wide 5 trivial rfl mb W
  have main : Calls Tryz.prog 24 #[.pointer (some ⟨b, 0, none⟩)] w fun e w' => ∃ (v : Value) (ss : List (List UInt8)), e = .returned v ∧ ss.Perm (strKeys D) ∧
      w'.ownsRow w.heap.size 9 1 v ss.length ((ss.mergeSort (fun x y => decide (x ≤ y))).map encStr) ∧ (v = .slice none 0 0 ↔ ss = []) ∧ Below w.heap.size w w' := by
    refine (callsIn_wide (n := 6)).1 ?_
    have hseq : SeqGives Fence.wide 2 Tryz.prog 138 #[.pointer (some ⟨w.heap.size, 0, none⟩)] encStr (fun ss => ss.Perm (strKeys D)) (Maps.size D) (w.alloc (.cells #[.map p] 58)) := by
      rcases hmap with ⟨rfl, rfl⟩ | ⟨m, rfl, ho⟩
      · have := AnyZ.keys_gives_nil (ρ := Tryz.keysS_ren) { Tryz.keysS with } Fence.wide 2 trivial rfl w.heap.size (w.alloc (.cells #[.map none] 58)) (by simp) (by simp)
        have e : (fun ss : List (List UInt8) => ss.Perm (strKeys (DataW.map [] : DU))) = fun ss => ss = [] := by
          funext ss
          exact propext ⟨fun h => List.Perm.eq_nil h, fun h => by rw [h]; exact List.Perm.refl _⟩
        rw [e]
        exact this
      · exact AnyZ.keys_gives (ρ := Tryz.keysS_ren) { Tryz.keysS with } Fence.wide _ trivial rfl (by omega) w.heap.size m _ D _ (by simp) (by simp) (ho.alloc _)
    have cS := AnyZ.sorted_in Tryz.sortedS Fence.wide 5 trivial trivial trivial trivial rfl (by omega) (sortsS _) (enters_of Tryz.func137 (by kernel_rfl) rfl) 138 #[.pointer (some ⟨w.heap.size, 0, none⟩)] trivial (enters_of Tryz.func138 (by kernel_rfl) rfl) _ _ (by unfold maxLen; omega) (by omega) _ hseq
    change CallsIn _ _ Tryz.prog 98 _ _ _ at cS
    clear hmap hseq
    have hfK : Fence.wide.fn 99 := trivial
    have hfS : Fence.wide.fn 98 := trivial
    refine callsIn_of_wp Tryz.func24 rfl trivial ?_ rfl
    simp only [Tryz.ntmps24, List.size_toArray, List.length_cons, List.length_nil, Nat.reduceAdd, Nat.reduceSub, Array.replicate_succ, Array.replicate_zero, List.push_toArray, List.append_toArray, List.nil_append, List.cons_append]
    gi_wp2_with (first
      | (gi_at_call 99; refine (cK _ _).mono ?_; rintro e w' ⟨rfl, rfl⟩)
      | (gi_at_call 98; refine cS.mono ?_; rintro e w' ⟨v, ss, rfl, hS, hrow, hnil, hb⟩))
    go_ret
    exact ⟨v, ss, rfl, hS, ownsRow_base_a hrow (by simp), hnil, ((Below.refl _ w).alloc (Nat.le_refl _) _).trans (hb.mono (by simp))⟩
  refine main.mono fun e w' ⟨v, ss, he, hS, hrow, hnil, hbl⟩ => ?_
  have e1 : ss.mergeSort (fun x y => decide (x ≤ y)) = sortedL D := mergeSort_of_perm hS
  have e2 : ss.length = (sortedL D).length := by rw [hS.length_eq, (sortedL_perm D).length_eq]
  rw [e1, e2] at hrow
  refine ⟨v, he, newTexts_of_row hrow ?_ ?_ (fun x hx => hf x ((sortedL_perm D).mem_iff.1 hx)), hbl⟩
  · rw [hnil]
    exact ⟨fun h => List.eq_nil_of_length_eq_zero (by rw [← e2, h]; rfl), fun h => List.eq_nil_of_length_eq_zero (by rw [e2, h]; rfl)⟩
  · have := sortedS_length D
    unfold sortedS at this
    rw [List.length_map] at this
    omega

theorem fits_one {D : DU} (h : Fits D) (hD : IsMap D) {x : ByteArray} (hx : x.size ≤ 140737488351232) : Fits (addOne D x) := by
  unfold addOne
  split
  · exact h
  · obtain ⟨es, rfl⟩ := hD
    intro y hy
    obtain ⟨q, hq, rfl⟩ := List.mem_map.1 hy
    rcases List.mem_cons.1 ((WideShapes.insert_perm _ _).mem_iff.1 hq) with rfl | hq
    · simpa [strOf] using hx
    · exact h _ (List.mem_map.2 ⟨q, (List.mem_filter.1 hq).1, rfl⟩)
theorem fits_addAll : ∀ (ss : List ByteArray) (D : DU), Fits D → Tidy D → (∀ s ∈ ss, s.size ≤ 140737488351232) → Fits (addAll D ss)
  | [], _, h, _, _ => h
  | x :: ss, _, h, ht, hs => fits_addAll ss _ (fits_one h ht.isMap (hs x (by simp))) (tidy_one ht x) (fun s h => hs s (by simp [h]))
theorem fits_delAll : ∀ (ss : List ByteArray) (D : DU), Fits D → Tidy D → Fits (delAll D ss)
  | [], _, h, _ => h
  | x :: ss, D, h, ht => fits_delAll ss _ (by
      obtain ⟨es, rfl, _⟩ := ht
      intro y hy
      obtain ⟨q, hq, rfl⟩ := List.mem_map.1 hy
      exact h _ (List.mem_map.2 ⟨q, (List.mem_filter.1 hq).1, rfl⟩)) (ht.del _)
theorem fits_none : Fits (.map []) := fun x hx => by simp [strKeys] at hx

/-- What Sort tells. -/
def sortS (ss : List ByteArray) : List ByteArray := sortedS (addAll (.map []) ss)

theorem sort_any (v : Value) (ss : List ByteArray) (w : World) (hv : TextsAt w v ss) (hl : ss.length ≤ 1000000000) :
    Calls Tryz.prog 8 #[v] w fun e w' => ∃ v, e = .returned v ∧ NewTexts w.heap.size w' v (sortS ss) ∧ Below w.heap.size w w' := by
  have HN := Lib.hid (new_any v ss w hv (by omega))
  have hfit : Fits (addAll (.map []) ss) := fits_addAll ss _ fits_none tidy_empty (by obtain ⟨_, _, _, _, h, _⟩ := hv; exact h)
  have hsz : Maps.size (addAll (.map [] : DU) ss) ≤ 1000000000 := by
    have := (size_addAll ss (.map []) tidy_empty).2
    have e : Maps.size (.map [] : DU) = 0 := rfl
    omega
  have HF := Lib.hid hfit
  have HS := Lib.hid hsz
  clear hfit hsz hv
  go_enter Tryz.func8, Tryz.ntmps8
  go_wp2_with (first
    | (go_at_call 18; refine HN.out.mono ?_; rintro e w1 ⟨hb1, b, m, rfl, hle, hlm, hmb, hs1⟩)
    | (go_at_call 24; refine (list_any _ _ _ _ hs1 HS.out HF.out).mono ?_; rintro e w2 ⟨v, rfl, hnt, hb2⟩))
  go_ret
  refine ⟨v, rfl, ⟨hnt.1, ?_⟩, hb1.trans (hb2.mono hb1.size)⟩
  rcases hnt.2 with h | ⟨g, c, cur, h1, h2, h3⟩
  · exact .inl h
  · exact .inr ⟨g, c, cur, h1, Nat.le_trans hb1.size h2, h3⟩

end Go.Proofs.YtgbknjpjhkegdaaGreat
