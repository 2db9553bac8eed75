/-
  Sets of numbers: what is there behind a Close; the holidays rise.
-/
import Derived.Test.YtfhpiedlhflndaaCalI
import Derived.Maps.Range
namespace Go.Proofs.Ytfhpiedlhflndaa
open Go.RowKit Go.Maps CalPure

theorem key_i (x : Int) : WideAt.IsKeyLit (.int .i64 x) := by simp [WideAt.IsKeyLit]

theorem tidy_putAll : ∀ (xs : List Int) (D : DU), Tidy D → Tidy (putAll D xs)
  | [], _, h => h
  | x :: xs, _, h => tidy_putAll xs _ (h.put (key_i x) _)

theorem size_putAll : ∀ (xs : List Int) (D : DU), Tidy D → Maps.size D ≤ Maps.size (putAll D xs)
  | [], _, _ => Nat.le_refl _
  | x :: xs, D, h => by
    have h1 := size_put (k := .int .i64 x) h (.agg [])
    have h2 := size_putAll xs _ (h.put (key_i x) (.agg []))
    show _ ≤ Maps.size (putAll (D.put (.int .i64 x) (.agg [])) xs)
    split at h1 <;> omega

theorem hol_putAll : ∀ (xs : List Int) (D : DU), Tidy D → ∀ y, holD (putAll D xs) y = (holD D y || xs.contains y)
  | [], _, _, _ => by simp [putAll]
  | x :: xs, D, h, y => by
    show holD (putAll (D.put (.int .i64 x) (.agg [])) xs) y = _
    rw [hol_putAll xs _ (h.put (key_i x) (.agg [])) y]
    by_cases e : y = x
    · subst e
      have : holD (D.put (.int .i64 y) (.agg [])) y = true := has_put_same h.isMap (key_i y) _
      rw [this]; simp
    · have : holD (D.put (.int .i64 x) (.agg [])) y = holD D y := has_put_other (fun e' => e (by simpa using e')) _
      rw [this]; simp [e]

theorem calAt_tidy {w : World} {b : Nat} {D : DU} (h : CalAt w b D) : Tidy D ∧ (intKeys D).Nodup := by
  obtain ⟨_, _, ⟨_, rfl⟩ | ⟨m, n, _, _, ho⟩⟩ := h
  · exact ⟨tidy_empty, List.nodup_nil⟩
  · refine ⟨ho.tidy lawI, ?_⟩
    obtain ⟨es, rfl, hp, _⟩ := ho.entries lawI
    obtain ⟨es', hD', hko⟩ := ho.keysOf
    obtain rfl : es = es' := by simpa using hD'
    refine List.pairwise_map.2 (hp.imp_of_mem fun {p q} hp' hq' hne e => hne ?_)
    obtain ⟨v1, k1⟩ := hko p hp'
    obtain ⟨v2, k2⟩ := hko q hq'
    obtain ⟨x, _, hx, _⟩ := Maps.keyOf_i64 Try.underlying3 k1
    obtain ⟨y, _, hy, _⟩ := Maps.keyOf_i64 Try.underlying3 k2
    rw [hx, hy] at e ⊢
    exact congrArg _ e

/-- A sorted list of different numbers rises. -/
theorem rises {l : List Int} (h : l.Nodup) (j : Nat) (hj : j + 1 < (l.mergeSort leI).length) : (l.mergeSort leI).getD j 0 < (l.mergeSort leI).getD (j + 1) 0 := by
  have tr : ∀ a b c : Int, leI a b = true → leI b c = true → leI a c = true := fun a b c h1 h2 => by simp only [leI, decide_eq_true_eq] at *; omega
  have tot : ∀ a b : Int, (leI a b || leI b a) = true := fun a b => by simp only [leI, Bool.or_eq_true, decide_eq_true_eq]; omega
  have hs := List.pairwise_mergeSort tr tot l
  have hn : (l.mergeSort leI).Nodup := (List.mergeSort_perm l leI).nodup_iff.2 h
  rw [getD_lt (by omega), getD_lt hj]
  have h1 := List.pairwise_iff_getElem.1 hs j (j + 1) (by omega) hj (by omega)
  have h2 := List.pairwise_iff_getElem.1 hn j (j + 1) (by omega) hj (by omega)
  simp only [leI, decide_eq_true_eq] at h1
  omega

theorem closeE_cases (D : DU) (xs : List Int) : closeE D xs = 0 ∨ closeE D xs = 17 ∨ closeE D xs = 2 := by
  unfold closeE
  split
  · simp
  · split <;> simp

end Go.Proofs.Ytfhpiedlhflndaa
