/-
  NameSets: what its helpers answer; sets as lists in order.
-/
import Derived.Test.YtgbknjpjhkegdaaGreatSortX
namespace Go.Proofs.YtgbknjpjhkegdaaGreat
open Go.RowKit Go.Maps Go.WideMaps
set_option linter.unusedVariables false

/-- Is x among the texts? -/
def memB (x : ByteArray) (ss : List ByteArray) : Bool := ss.any fun y => decide (y = x)
theorem memB_true {x : ByteArray} {ss : List ByteArray} : memB x ss = true ↔ x ∈ ss := by
  unfold memB
  rw [List.any_eq_true]
  exact ⟨fun ⟨y, hy, e⟩ => by rw [← of_decide_eq_true e]; exact hy, fun h => ⟨x, h, decide_eq_true rfl⟩⟩
theorem memB_false {x : ByteArray} {ss : List ByteArray} : memB x ss = false ↔ x ∉ ss := by
  rw [← memB_true]
  cases memB x ss <;> simp

set_option maxHeartbeats 1600000 in
theorem hasl_any (v : Value) (ss : List ByteArray) (x : ByteArray) (w : World) (hv : TextsAt w v ss) :
    Calls Tryz.prog 20 #[v, .string x] w fun e w' => e = .returned (.bool (memB x ss)) ∧ w = w' := by
  have HV := Lib.hid hv
  obtain ⟨av, cv, rfl, z1, z2, z3⟩ := hv
  clear z2 z3
  obtain ⟨n, hn⟩ : ∃ n, n = ss.length := ⟨_, rfl⟩
  rw [← hn] at HV z1 ⊢
  have HN := Lib.hid hn
  obtain ⟨r, hr⟩ : ∃ r, r = memB x ss := ⟨_, rfl⟩
  rw [← hr]
  have HR := Lib.hid hr
  clear hn hr
  go_enter Tryz.func20, Tryz.ntmps20
  go_wp2
  go_loop [5] (fun i => ∃ k : Nat, i = .int .i64 k ∧ k ≤ n ∧ Hid (∀ j, j < k → ss.getD j ByteArray.empty ≠ x)) (fun i => (n - RowKit.intOf i).toNat)
  case atStart => exact ⟨0, rfl, Nat.zero_le _, Lib.hid (fun j hj => absurd hj (Nat.not_lt_zero _))⟩
  case round =>
    obtain ⟨k, rfl, hk, HA⟩ := hrel
    by_cases hlt : k < n
    · have hltz : (k : Int) < (n : Int) := by omega
      have hk0 : (0 : Int) ≤ (k : Int) := by omega
      obtain ⟨b, off, rfl, z2, _, hcl⟩ := TextsAt.cellAt HV.out (k := k) (by rw [← HN.out]; exact hlt)
      have x0 := hcl k (by rw [← HN.out]; exact hlt)
      obtain ⟨y, hy⟩ : ∃ y, y = ss.getD k ByteArray.empty := ⟨_, rfl⟩
      rw [← hy] at x0
      have HY := Lib.hid hy
      clear hcl hy z2
      by_cases hyx : y = x
      · have hbq : (y.toList == x.toList) = true := by rw [hyx]; simp
        have hrt : r = true := by
          rw [HR.out, memB_true, ← hyx, HY.out, getD_lt (by rw [← HN.out]; exact hlt)]
          exact List.getElem_mem _
        have HRT := Lib.hid hrt
        clear hyx hrt
        go_wp2
        go_ret
        exact ⟨by rw [HRT.out]; rfl, rfl⟩
      · have hbq : (y.toList == x.toList) = false := by
          cases hh : (y.toList == x.toList)
          · rfl
          · exact absurd (toList_eq' (p := y) (q := x) (by simp [hh])) hyx
        have HYX := Lib.hid hyx
        clear hyx
        go_wp2
        go_round
        case rel =>
          refine ⟨k + 1, by go_num, by omega, Lib.hid (fun j hj => ?_)⟩
          by_cases e : j = k
          · subst e; rw [← HY.out]; exact HYX.out
          · exact HA.out j (by omega)
        case measure => simp [RowKit.intOf]; omega
    · have hltz : ¬ (k : Int) < (n : Int) := by omega
      have hrf : r = false := by
        rw [HR.out, memB_false]
        intro hm
        obtain ⟨j, hj, e⟩ := List.mem_iff_getElem.1 hm
        exact HA.out j (by have := HN.out; omega) (by rw [getD_lt hj, e])
      have HRF := Lib.hid hrf
      clear hrf
      go_wp2
      go_ret
      exact ⟨by rw [HRF.out]; rfl, rfl⟩

/-! ### A set's texts, in order -/
theorem mem_sortedS {D : DU} (h : StrMap D) (x : ByteArray) : x ∈ sortedS D ↔ hasS D x = true := by
  unfold sortedS
  rw [List.mem_map]
  constructor
  · rintro ⟨l, hl, rfl⟩
    exact (mem_strKeys h l).1 ((sortedL_perm _).mem_iff.1 hl)
  · intro hx
    exact ⟨x.data.toList, (sortedL_perm _).mem_iff.2 ((mem_strKeys h _).2 (by rw [ofL_of]; exact hx)), ofL_of x⟩
theorem sortedS_self {D : DU} (h : StrMap D) (t : Tidy D) : sortS (sortedS D) = sortedS D :=
  same_sorted (str_setOf _) h (tidy_setOf _) t fun y => by
    rw [hasS_addAll y _ _ isMap_empty, hasS_none, mem_sortedS h]
    simp
theorem sortedS_strict {D : DU} (h : StrMap D) (t : Tidy D) : (sortedS D).Pairwise (fun a b => cmpS a b < 0) := by
  rw [← sortedS_self h t, ← sortS_refS]
  exact refS_sorted _
theorem strict_same {l l' : List ByteArray} (h : l.Pairwise (fun a b => cmpS a b < 0)) (h' : l'.Pairwise (fun a b => cmpS a b < 0)) (hm : ∀ x, x ∈ l ↔ x ∈ l') : l = l' := by
  rw [← sortS_of_sorted h, ← sortS_of_sorted h']
  exact sortS_same hm

/-- One more text, sorted in. -/
theorem now_add {D : DU} (h : StrMap D) (t : Tidy D) (x : ByteArray) (hx : hasS D x = false) : refS (sortedS D ++ [x]) = sortedS (addOne D x) := by
  refine strict_same (refS_sorted _) (sortedS_strict (strMap_one h x) (tidy_one t x)) fun y => ?_
  rw [mem_refS, List.mem_append, List.mem_singleton, mem_sortedS h, mem_sortedS (strMap_one h x), hasS_addOne t.isMap]
theorem now_same {D : DU} (x : ByteArray) (hx : hasS D x = true) : addOne D x = D := by unfold addOne; rw [if_pos hx]
theorem size_fresh {D : DU} (t : Tidy D) (x : ByteArray) (hx : hasS D x = false) : Maps.size (addOne D x) = Maps.size D + 1 := by rw [size_one t, if_neg (by rw [hx]; simp)]

/-- Those that stay behind a Del. -/
def leftOf (l xs : List ByteArray) : List ByteArray := l.filter fun y => !memB y xs
theorem leftOf_snoc (xs : List ByteArray) {l : List ByteArray} {k : Nat} (h : k < l.length) : leftOf (l.take (k + 1)) xs = leftOf (l.take k) xs ++ if memB (l.getD k ByteArray.empty) xs = true then [] else [l.getD k ByteArray.empty] := by
  unfold leftOf
  rw [take_snoc h, List.filter_append]
  congr 1
  cases hc : memB (l.getD k ByteArray.empty) xs <;> simp only [List.getD_eq_getElem?_getD] at hc ⊢ <;> simp [hc]
theorem leftOf_len (l xs : List ByteArray) : (leftOf l xs).length ≤ l.length := List.length_filter_le _ _
theorem now_del {D : DU} (h : StrMap D) (t : Tidy D) (xs : List ByteArray) : leftOf (sortedS D) xs = sortedS (delAll D xs) := by
  refine strict_same ((sortedS_strict h t).filter _) (sortedS_strict (strMap_delAll xs D h) (tidy_delAll xs D t)) fun y => ?_
  rw [mem_sortedS (strMap_delAll xs D h), hasS_delAll, leftOf, List.mem_filter, mem_sortedS h]
  rw [Bool.not_eq_true', memB_false]

/-! ### The Book, beside other things: all of it lies from its own block on -/
end Go.Proofs.YtgbknjpjhkegdaaGreat
