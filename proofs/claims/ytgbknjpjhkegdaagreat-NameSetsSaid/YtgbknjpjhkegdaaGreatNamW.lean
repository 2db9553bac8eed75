/-
  The plain law of sets: which texts are in it behind addAll and delAll; two sets of the same texts list alike.
-/
import Derived.Test.YtgbknjpjhkegdaaGreatNamE
namespace Go.Proofs.YtgbknjpjhkegdaaGreat
open Go.RowKit Go.Maps Go.WideMaps

theorem ba_ext {x y : ByteArray} (h : x.data.toList = y.data.toList) : x = y := by
  rw [← ofL_of x, ← ofL_of y, h]
theorem lit_ne {x y : ByteArray} (h : ¬ x = y) : (Lit.string x.data.toList) ≠ .string y.data.toList := fun e => h (ba_ext (Lit.string.inj e))

theorem hasS_addOne {D : DU} (h : IsMap D) (x y : ByteArray) : hasS (addOne D x) y = true ↔ hasS D y = true ∨ y = x := by
  unfold addOne
  split
  · rename_i hx
    exact ⟨.inl, fun h => by rcases h with h | rfl; exact h; exact hx⟩
  · by_cases e : y = x
    · subst e
      exact ⟨fun _ => .inr rfl, fun _ => has_put_same h (key_s y) _⟩
    · unfold hasS
      rw [has_put_other (lit_ne e)]
      exact ⟨.inl, fun h => by rcases h with h | h; exact h; exact absurd h e⟩

theorem isMap_one {D : DU} (h : IsMap D) (x : ByteArray) : IsMap (addOne D x) := by
  unfold addOne; split
  · exact h
  · exact h.put _ _

theorem hasS_addAll (y : ByteArray) : ∀ (xs : List ByteArray) (D : DU), IsMap D → (hasS (addAll D xs) y = true ↔ hasS D y = true ∨ y ∈ xs)
  | [], D, _ => by simp [addAll]
  | x :: xs, D, h => by
    show hasS (addAll (addOne D x) xs) y = true ↔ _
    rw [hasS_addAll y xs _ (isMap_one h x), hasS_addOne h, List.mem_cons, or_assoc]

theorem hasS_del (D : DU) (x y : ByteArray) : hasS (D.del (.string x.data.toList)) y = true ↔ hasS D y = true ∧ ¬ y = x := by
  by_cases e : y = x
  · subst e
    unfold hasS
    rw [has_del_same]
    simp
  · unfold hasS
    rw [has_del_other (lit_ne e)]
    exact ⟨fun h => ⟨h, e⟩, fun h => h.1⟩

theorem hasS_delAll (y : ByteArray) : ∀ (xs : List ByteArray) (D : DU), (hasS (delAll D xs) y = true ↔ hasS D y = true ∧ ¬ y ∈ xs)
  | [], D => by simp [delAll]
  | x :: xs, D => by
    show hasS (delAll (D.del (.string x.data.toList)) xs) y = true ↔ _
    rw [hasS_delAll y xs, hasS_del, List.mem_cons, not_or, and_assoc]

theorem hasS_none (y : ByteArray) : hasS (.map []) y = false := rfl

/-- Keys that are texts. -/
def StrMap (D : DU) : Prop := ∃ es, D = .map es ∧ ∀ p ∈ es, ∃ l, p.1 = Lit.string l

theorem strMap_none : StrMap (.map []) := ⟨[], rfl, by simp⟩
theorem strMap_one {D : DU} (h : StrMap D) (x : ByteArray) : StrMap (addOne D x) := by
  unfold addOne; split
  · exact h
  · obtain ⟨es, rfl, hk⟩ := h
    refine ⟨_, rfl, fun p hp => ?_⟩
    rcases List.mem_cons.1 ((WideShapes.insert_perm _ _).mem_iff.1 hp) with rfl | hq
    · exact ⟨_, rfl⟩
    · exact hk _ (List.mem_filter.1 hq).1
theorem strMap_addAll : ∀ (xs : List ByteArray) (D : DU), StrMap D → StrMap (addAll D xs)
  | [], _, h => h
  | x :: xs, _, h => strMap_addAll xs _ (strMap_one h x)
theorem strMap_delAll : ∀ (xs : List ByteArray) (D : DU), StrMap D → StrMap (delAll D xs)
  | [], _, h => h
  | x :: xs, D, h => strMap_delAll xs (D.del (.string x.data.toList)) (by
      obtain ⟨es, rfl, hk⟩ := h
      exact ⟨_, rfl, fun p hp => hk _ (List.mem_filter.1 hp).1⟩)

theorem mem_strKeys {D : DU} (h : StrMap D) (l : List UInt8) : l ∈ strKeys D ↔ hasS D (ofL l) = true := by
  obtain ⟨es, rfl, hk⟩ := h
  unfold hasS
  rw [ofL_toList, has_eq, List.any_eq_true]
  constructor
  · intro hl
    obtain ⟨p, hp, rfl⟩ := List.mem_map.1 hl
    obtain ⟨l, e⟩ := hk p hp
    refine ⟨p, hp, ?_⟩
    rw [e]
    exact WideAt.sameKey_self (by simp [WideAt.IsKeyLit])
  · rintro ⟨p, hp, hs⟩
    have e := WideAt.sameKey_eq hs
    exact List.mem_map.2 ⟨p, hp, by rw [e]; rfl⟩

theorem nodup_strKeys {D : DU} (h : StrMap D) (ht : Tidy D) : (strKeys D).Nodup := by
  obtain ⟨es, rfl, hk⟩ := h
  obtain ⟨es', e, hp⟩ := ht
  obtain rfl : es = es' := by injection e
  refine List.Pairwise.map _ (fun p q h => h) ?_
  refine hp.imp_of_mem fun {p q} hp hq hne e => hne ?_
  obtain ⟨l, e1⟩ := hk p hp
  obtain ⟨l', e2⟩ := hk q hq
  rw [e1, e2] at e ⊢
  exact congrArg _ (by simpa [strOf] using e)

theorem same_sorted {D D' : DU} (h : StrMap D) (h' : StrMap D') (t : Tidy D) (t' : Tidy D') (hh : ∀ y, hasS D y = true ↔ hasS D' y = true) : sortedS D = sortedS D' := by
  unfold sortedS sortedL
  congr 1
  refine mergeSort_of_perm ?_
  exact (List.perm_ext_iff_of_nodup (nodup_strKeys h t) (nodup_strKeys h' t')).2 fun l => by rw [mem_strKeys h, mem_strKeys h', hh]

theorem same_size {D D' : DU} (h : StrMap D) (h' : StrMap D') (t : Tidy D) (t' : Tidy D') (hh : ∀ y, hasS D y = true ↔ hasS D' y = true) : Maps.size D = Maps.size D' := by
  rw [← sortedS_length, ← sortedS_length, same_sorted h h' t t' hh]

theorem addAll_same : ∀ (xs : List ByteArray) (D : DU), (∀ x ∈ xs, hasS D x = true) → addAll D xs = D
  | [], _, _ => rfl
  | x :: xs, D, h => by
    have e : addOne D x = D := by unfold addOne; rw [if_pos (h x (by simp))]
    show addAll (addOne D x) xs = D
    rw [e]
    exact addAll_same xs D (fun y hy => h y (by simp [hy]))

def freshOf (D : DU) (xs : List ByteArray) : List ByteArray := xs.filter fun x => !hasS D x

theorem back_has {D : DU} (h : IsMap D) (more : List ByteArray) (y : ByteArray) : hasS (delAll (addAll D more) (freshOf D more)) y = true ↔ hasS D y = true := by
  rw [hasS_delAll, hasS_addAll y more D h]
  unfold freshOf
  rw [List.mem_filter]
  cases hasS D y <;> simp

/-- The texts of a list's set. -/
abbrev setOf (xs : List ByteArray) : DU := addAll (.map []) xs
theorem tidy_setOf (xs : List ByteArray) : Tidy (setOf xs) := tidy_addAll xs _ tidy_empty
theorem str_setOf (xs : List ByteArray) : StrMap (setOf xs) := strMap_addAll xs _ strMap_none

theorem back_sorted (first more : List ByteArray) : sortedS (delAll (addAll (setOf first) more) (freshOf (setOf first) more)) = sortedS (setOf first) :=
  same_sorted (strMap_delAll _ _ (strMap_addAll _ _ (str_setOf _))) (str_setOf _) (tidy_delAll _ _ (tidy_addAll _ _ (tidy_setOf _))) (tidy_setOf _) (back_has (tidy_setOf _).isMap _)
theorem back_size (first more : List ByteArray) : Maps.size (delAll (addAll (setOf first) more) (freshOf (setOf first) more)) = Maps.size (setOf first) :=
  same_size (strMap_delAll _ _ (strMap_addAll _ _ (str_setOf _))) (str_setOf _) (tidy_delAll _ _ (tidy_addAll _ _ (tidy_setOf _))) (tidy_setOf _) (back_has (tidy_setOf _).isMap _)
theorem back_first (first more : List ByteArray) : addAll (delAll (addAll (setOf first) more) (freshOf (setOf first) more)) first = delAll (addAll (setOf first) more) (freshOf (setOf first) more) :=
  addAll_same _ _ fun x hx => (back_has (tidy_setOf _).isMap _ x).2 ((hasS_addAll x first _ isMap_empty).2 (.inr hx))

theorem mem_sortS (x : ByteArray) (xs : List ByteArray) : x ∈ sortS xs ↔ x ∈ xs := by
  unfold sortS sortedS
  rw [List.mem_map]
  constructor
  · rintro ⟨l, hl, rfl⟩
    have := (mem_strKeys (str_setOf xs) l).1 ((sortedL_perm _).mem_iff.1 hl)
    rcases (hasS_addAll _ xs _ isMap_empty).1 this with h | h
    · rw [hasS_none] at h; cases h
    · exact h
  · intro hx
    exact ⟨x.data.toList, (sortedL_perm _).mem_iff.2 ((mem_strKeys (str_setOf xs) _).2 (by rw [ofL_of]; exact (hasS_addAll x xs _ isMap_empty).2 (.inr hx))), ofL_of x⟩

theorem sortS_same {xs ys : List ByteArray} (h : ∀ x, x ∈ xs ↔ x ∈ ys) : sortS xs = sortS ys :=
  same_sorted (str_setOf _) (str_setOf _) (tidy_setOf _) (tidy_setOf _) fun y => by
    rw [hasS_addAll y xs _ isMap_empty, hasS_addAll y ys _ isMap_empty, h]

theorem sortS_sortS (xs : List ByteArray) : sortS (sortS xs) = sortS xs := sortS_same fun x => mem_sortS x xs
theorem sortS_pieces (k : Nat) (xs : List ByteArray) : sortS (sortS (xs.take k) ++ sortS (xs.drop k)) = sortS xs := sortS_same fun x => by
  rw [List.mem_append, mem_sortS, mem_sortS, ← List.mem_append, List.take_append_drop]

/-! ### the order -/
theorem cmpS_zero (a b : ByteArray) : cmpS a b = 0 ↔ a = b := by
  unfold cmpS
  by_cases h1 : a.data.toList < b.data.toList
  · rw [if_pos h1]
    exact ⟨fun h => absurd h (by decide), fun e => by subst e; exact absurd h1 (List.lt_irrefl _)⟩
  · rw [if_neg h1]
    by_cases h2 : b.data.toList < a.data.toList
    · rw [if_pos h2]
      exact ⟨fun h => absurd h (by decide), fun e => by subst e; exact absurd h2 (List.lt_irrefl _)⟩
    · rw [if_neg h2]
      exact ⟨fun _ => ba_ext (List.le_antisymm h2 h1), fun _ => rfl⟩
theorem cmpS_neg (a b : ByteArray) : cmpS b a = -cmpS a b := by
  unfold cmpS
  by_cases h1 : a.data.toList < b.data.toList
  · rw [if_pos h1, if_neg (List.lt_asymm h1), if_pos h1]
    rfl
  · rw [if_neg h1]
    by_cases h2 : b.data.toList < a.data.toList
    · rw [if_pos h2, if_pos h2, if_neg h1]
    · rw [if_neg h2, if_neg h2, if_neg h1]; rfl
theorem cmpS_le (a b : ByteArray) : cmpS a b ≤ 0 ↔ a.data.toList ≤ b.data.toList := by
  unfold cmpS
  by_cases h1 : a.data.toList < b.data.toList
  · rw [if_pos h1]
    exact ⟨fun _ => List.le_of_lt h1, fun _ => by omega⟩
  · rw [if_neg h1]
    by_cases h2 : b.data.toList < a.data.toList
    · rw [if_pos h2]
      exact ⟨fun h => by omega, fun h => absurd h2 (List.not_lt.2 h)⟩
    · rw [if_neg h2]
      exact ⟨fun _ => List.not_lt.1 h2, fun _ => by omega⟩
theorem cmpS_trans (a b c : ByteArray) (h1 : cmpS a b ≤ 0) (h2 : cmpS b c ≤ 0) : cmpS a c ≤ 0 :=
  (cmpS_le _ _).2 (List.le_trans ((cmpS_le _ _).1 h1) ((cmpS_le _ _).1 h2))
theorem cmpS_trans' (a b c : ByteArray) (h1 : 0 ≤ cmpS a b) (h2 : 0 ≤ cmpS b c) : 0 ≤ cmpS a c := by
  have := cmpS_trans c b a (by rw [cmpS_neg b c]; omega) (by rw [cmpS_neg a b]; omega)
  rw [cmpS_neg a c] at this
  omega

end Go.Proofs.YtgbknjpjhkegdaaGreat
