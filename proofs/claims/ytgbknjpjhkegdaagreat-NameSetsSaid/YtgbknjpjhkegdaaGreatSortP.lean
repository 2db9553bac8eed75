/-
  The document's sorting of texts, in plain words.
-/
import Derived.Test.YtgbknjpjhkegdaaGreatNamW
import Derived.Test.YtgbknjpjhkegdaaGreatBookY
namespace Go.Proofs.YtgbknjpjhkegdaaGreat
open Go.RowKit Go.Maps Go.WideMaps

/-- x is put into its place. -/
def insR : List ByteArray → ByteArray → List ByteArray
  | [], x => [x]
  | y :: l, x => if cmpS y x < 0 then y :: insR l x else if y = x then y :: l else x :: y :: l
def refS (ss : List ByteArray) : List ByteArray := ss.foldl insR []

theorem refS_snoc (ss : List ByteArray) (x : ByteArray) : refS (ss ++ [x]) = insR (refS ss) x := by
  unfold refS
  rw [List.foldl_append]
  rfl

theorem insR_at (x : ByteArray) : ∀ (l : List ByteArray) (k : Nat), k ≤ l.length → (∀ j, j < k → cmpS (l.getD j ByteArray.empty) x < 0) → (k < l.length → ¬ cmpS (l.getD k ByteArray.empty) x < 0) →
    insR l x = if k < l.length ∧ l.getD k ByteArray.empty = x then l else l.take k ++ [x] ++ l.drop k
  | [], 0, _, _, _ => by simp [insR]
  | [], k + 1, h, _, _ => by simp at h
  | y :: l, 0, _, _, h => by
    have h0 := h (by simp)
    rw [List.getD_cons_zero] at h0
    rw [insR, if_neg h0]
    by_cases hy : y = x
    · rw [if_pos hy, if_pos ⟨by simp, by simpa using hy⟩]
    · rw [if_neg hy, if_neg (by simpa using hy)]
      simp
  | y :: l, k + 1, hk, hb, h => by
    have h0 := hb 0 (by omega)
    rw [List.getD_cons_zero] at h0
    rw [insR, if_pos h0, insR_at x l k (by simpa using hk) (fun j hj => by have := hb (j + 1) (by omega); rwa [List.getD_cons_succ] at this) (fun hk2 => by have := h (by simp; omega); rwa [List.getD_cons_succ] at this)]
    by_cases hc : k < l.length ∧ l.getD k ByteArray.empty = x
    · rw [if_pos hc, if_pos ⟨by simp; omega, by rw [List.getD_cons_succ]; exact hc.2⟩]
    · rw [if_neg hc, if_neg (fun hh => hc ⟨by have := hh.1; simp at this; omega, by have := hh.2; rwa [List.getD_cons_succ] at this⟩)]
      simp

theorem mem_insR (x z : ByteArray) : ∀ l, z ∈ insR l x ↔ z ∈ l ∨ z = x
  | [] => by simp [insR]
  | y :: l => by
    rw [insR]
    by_cases h : cmpS y x < 0
    · rw [if_pos h, List.mem_cons, mem_insR x z l, List.mem_cons]
      exact ⟨fun h => h.elim (fun h => .inl (.inl h)) (fun h => h.elim (fun h => .inl (.inr h)) .inr), fun h => h.elim (fun h => h.elim .inl (fun h => .inr (.inl h))) (fun h => .inr (.inr h))⟩
    · rw [if_neg h]
      by_cases h2 : y = x
      · rw [if_pos h2]
        exact ⟨.inl, fun h => h.elim id (fun h => by rw [h, ← h2]; simp)⟩
      · rw [if_neg h2]
        simp only [List.mem_cons]
        exact ⟨fun h => h.elim .inr .inl, fun h => h.elim .inr .inl⟩

theorem mem_refS (z : ByteArray) (ss : List ByteArray) : z ∈ refS ss ↔ z ∈ ss := by
  have key : ∀ (ss l : List ByteArray), z ∈ ss.foldl insR l ↔ z ∈ l ∨ z ∈ ss := by
    intro ss
    induction ss with
    | nil => intro l; simp
    | cons x ss ih =>
      intro l
      rw [List.foldl_cons, ih, mem_insR, List.mem_cons]
      exact ⟨fun h => h.elim (fun h => h.elim .inl (fun h => .inr (.inl h))) (fun h => .inr (.inr h)), fun h => h.elim (fun h => .inl (.inl h)) (fun h => h.elim (fun h => .inl (.inr h)) .inr)⟩
  have := key ss []
  simpa [refS] using this

theorem cmpS_neg_iff (a b : ByteArray) : cmpS a b < 0 ↔ a.data.toList < b.data.toList := by
  unfold cmpS
  by_cases h : a.data.toList < b.data.toList
  · rw [if_pos h]; simp [h]
  · rw [if_neg h]
    by_cases h2 : b.data.toList < a.data.toList
    · rw [if_pos h2]; simp [h]
    · rw [if_neg h2]; simp [h]
theorem cmpS_ltt {a b c : ByteArray} (h1 : cmpS a b < 0) (h2 : cmpS b c < 0) : cmpS a c < 0 :=
  (cmpS_neg_iff a c).2 (List.lt_trans ((cmpS_neg_iff a b).1 h1) ((cmpS_neg_iff b c).1 h2))

theorem insR_sorted (x : ByteArray) : ∀ l : List ByteArray, l.Pairwise (fun a b => cmpS a b < 0) → (insR l x).Pairwise (fun a b => cmpS a b < 0)
  | [], _ => by simp [insR]
  | y :: l, h => by
    obtain ⟨h1, h2⟩ := List.pairwise_cons.1 h
    rw [insR]
    by_cases hc : cmpS y x < 0
    · rw [if_pos hc]
      refine List.pairwise_cons.2 ⟨fun z hz => ?_, insR_sorted x l h2⟩
      rcases (mem_insR x z l).1 hz with hz | rfl
      · exact h1 z hz
      · exact hc
    · rw [if_neg hc]
      by_cases h3 : y = x
      · rw [if_pos h3]; exact h
      · rw [if_neg h3]
        have hxy : cmpS x y < 0 := by
          have h4 : cmpS y x ≠ 0 := fun e => h3 ((cmpS_zero y x).1 e)
          have := cmpS_neg y x
          omega
        refine List.pairwise_cons.2 ⟨fun z hz => ?_, h⟩
        rcases List.mem_cons.1 hz with rfl | hz
        · exact hxy
        · exact cmpS_ltt hxy (h1 z hz)

theorem refS_sorted (ss : List ByteArray) : (refS ss).Pairwise (fun a b => cmpS a b < 0) := by
  have key : ∀ (ss l : List ByteArray), l.Pairwise (fun a b => cmpS a b < 0) → (ss.foldl insR l).Pairwise (fun a b => cmpS a b < 0) := by
    intro ss
    induction ss with
    | nil => intro l h; exact h
    | cons x ss ih => intro l h; exact ih _ (insR_sorted x l h)
  exact key ss [] List.Pairwise.nil

theorem insR_len (x : ByteArray) : ∀ l : List ByteArray, (insR l x).length ≤ l.length + 1
  | [] => by simp [insR]
  | y :: l => by
    rw [insR]
    split
    · have := insR_len x l; simp; omega
    · split <;> simp
theorem refS_len (ss : List ByteArray) : (refS ss).length ≤ ss.length := by
  have key : ∀ (ss l : List ByteArray), (ss.foldl insR l).length ≤ l.length + ss.length := by
    intro ss
    induction ss with
    | nil => intro l; simp
    | cons x ss ih => intro l; have := ih (insR l x); have := insR_len x l; simp; omega
  simpa [refS] using key ss []

/-- What is in order stays as it is. -/
theorem sortS_of_sorted {l : List ByteArray} (h : l.Pairwise (fun a b => cmpS a b < 0)) : sortS l = l := by
  have hnd : (l.map (·.data.toList)).Nodup := by
    refine List.Pairwise.map _ (fun p q hh => hh) (h.imp fun {a b} hab e => ?_)
    have := (cmpS_neg_iff a b).1 hab
    rw [e] at this
    exact List.lt_irrefl _ this
  have hp : (strKeys (setOf l)).Perm (l.map (·.data.toList)) := by
    refine (List.perm_ext_iff_of_nodup (nodup_strKeys (str_setOf _) (tidy_setOf _)) hnd).2 fun z => ?_
    rw [mem_strKeys (str_setOf _), hasS_addAll _ _ _ isMap_empty, hasS_none, List.mem_map]
    constructor
    · rintro (h | h)
      · cases h
      · exact ⟨_, h, ofL_toList z⟩
    · rintro ⟨y, hy, rfl⟩
      exact .inr (by rw [ofL_of]; exact hy)
  unfold sortS sortedS sortedL
  rw [mergeSort_of_perm hp, List.mergeSort_of_pairwise, List.map_map]
  · conv => rhs; rw [← List.map_id l]
    exact List.map_congr_left fun y _ => ofL_of y
  · refine List.pairwise_map.2 (h.imp fun {a b} hab => ?_)
    have := (cmpS_neg_iff a b).1 hab
    exact decide_eq_true (List.le_of_lt this)

theorem sortS_refS (ss : List ByteArray) : refS ss = sortS ss := by
  rw [← sortS_of_sorted (refS_sorted ss)]
  exact sortS_same fun x => mem_refS x ss
end Go.Proofs.YtgbknjpjhkegdaaGreat
