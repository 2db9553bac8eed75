/-
  Plain law: merging in pieces is merging at once; worth adds up.
-/
import Derived.Test.YtnehamkpeeadjaaValM
import Derived.Test.YtnehamkpeeadjaaHeld
namespace Go.Proofs.Ytnehamkpeeadjaa
open Go.RowKit Held

abbrev Pl := ByteArray × Int
/-- How much there is of an asset. -/
def qsum (ps : List Pl) (s : ByteArray) : Int := ((ps.filter fun p => decide (p.1 = s)).map (·.2)).sum
def nameD (ps : List Pl) : DH := ps.foldl (fun D p => putV D p.1 (.bool true)) (.map [])
/-- The assets in order, each once. -/
def namesF (ps : List Pl) : List ByteArray := keysV (nameD ps)
def valF (ps : List Pl) (s : ByteArray) : Int := (addF (qsum ps s)).1
/-- Of each asset one pledge, none of nothing. -/
def mergeF (ps : List Pl) : List Pl := ((namesF ps).filter fun s => decide (valF ps s ≠ 0)).map fun s => (s, valF ps s)

theorem nameD_snoc (ps : List Pl) (p : Pl) : nameD (ps ++ [p]) = putV (nameD ps) p.1 (.bool true) := by simp [nameD, List.foldl_append]
theorem fold_keys : ∀ (ps : List Pl) (D : DH), TextKeys D → TextKeys (ps.foldl (fun D p => putV D p.1 (.bool true)) D) ∧ ∀ s, hasV (ps.foldl (fun D p => putV D p.1 (.bool true)) D) s = true ↔ hasV D s = true ∨ ∃ p ∈ ps, p.1 = s
  | [], D, h => ⟨h, fun s => by simp⟩
  | p :: r, D, h => by
    obtain ⟨h1, h2⟩ := fold_keys r (putV D p.1 (.bool true)) (h.put _ _)
    refine ⟨h1, fun s => ?_⟩
    rw [List.foldl_cons, h2, hasV_put h.isMap]
    constructor
    · rintro ((rfl | h) | ⟨q, hq, e⟩)
      · exact .inr ⟨p, List.mem_cons_self .., rfl⟩
      · exact .inl h
      · exact .inr ⟨q, List.mem_cons_of_mem _ hq, e⟩
    · rintro (h | ⟨q, hq, e⟩)
      · exact .inl (.inr h)
      · rcases List.mem_cons.1 hq with rfl | hq
        · exact .inl (.inl e.symm)
        · exact .inr ⟨q, hq, e⟩
theorem nameD_keys (ps : List Pl) : TextKeys (nameD ps) := (fold_keys ps _ textKeys_none).1
theorem nameD_has (ps : List Pl) (s : ByteArray) : hasV (nameD ps) s = true ↔ ∃ p ∈ ps, p.1 = s := by
  rw [nameD, (fold_keys ps _ textKeys_none).2]
  simp [hasV_none]
theorem mem_names (ps : List Pl) (s : ByteArray) : s ∈ namesF ps ↔ ∃ p ∈ ps, p.1 = s := by
  rw [namesF, mem_keysV (nameD_keys ps), nameD_has]
theorem names_sorted (ps : List Pl) : (namesF ps).Pairwise Ahead := keysV_sorted (nameD_keys ps)

theorem qsum_nil (s : ByteArray) : qsum [] s = 0 := rfl
theorem qsum_cons (p : Pl) (r : List Pl) (s : ByteArray) : qsum (p :: r) s = (if p.1 = s then p.2 else 0) + qsum r s := by
  unfold qsum
  rw [List.filter_cons]
  by_cases h : p.1 = s <;> simp [h]
theorem qsum_append (a b : List Pl) (s : ByteArray) : qsum (a ++ b) s = qsum a s + qsum b s := by
  simp [qsum, List.filter_append]
theorem qsum_no : ∀ (ps : List Pl) (s : ByteArray), (¬ ∃ p ∈ ps, p.1 = s) → qsum ps s = 0
  | [], _, _ => rfl
  | p :: r, s, h => by
    rw [qsum_cons, if_neg (fun e => h ⟨p, List.mem_cons_self .., e⟩), qsum_no r s (fun ⟨q, hq, e⟩ => h ⟨q, List.mem_cons_of_mem _ hq, e⟩)]
    rfl

theorem merge_ext {a b : List Pl} (h : ∀ s, valF a s = valF b s) : mergeF a = mergeF b := by
  have key : ∀ (p : List Pl) s, valF p s ≠ 0 → s ∈ namesF p := fun p s hs => by
    rw [mem_names]
    refine Decidable.byContradiction fun hn => hs ?_
    rw [valF, qsum_no p s hn]; rfl
  have e : (namesF a).filter (fun s => decide (valF a s ≠ 0)) = (namesF b).filter (fun s => decide (valF b s ≠ 0)) := by
    refine sorted_ext ((names_sorted a).filter _) ((names_sorted b).filter _) fun s => ?_
    rw [List.mem_filter, List.mem_filter]
    simp only [decide_eq_true_eq]
    constructor
    · rintro ⟨_, h2⟩
      rw [h] at h2
      exact ⟨key b s h2, h2⟩
    · rintro ⟨_, h2⟩
      rw [← h] at h2
      exact ⟨key a s h2, h2⟩
  rw [mergeF, mergeF, e]
  exact List.map_congr_left fun s _ => by rw [h]

theorem qsum_map : ∀ (L : List ByteArray) (f : ByteArray → Int) (t : ByteArray), L.Pairwise Ahead → (t ∉ L → f t = 0) → qsum ((L.filter fun s => decide (f s ≠ 0)).map fun s => (s, f s)) t = f t
  | [], f, t, _, h => by simp [qsum, h (by simp)]
  | x :: r, f, t, hp, h => by
    obtain ⟨h1, h2⟩ := List.pairwise_cons.1 hp
    by_cases e : x = t
    · subst e
      have hx : x ∉ r := fun hx => ahead_irrefl _ (h1 x hx)
      have hno : qsum ((r.filter fun s => decide (f s ≠ 0)).map fun s => (s, f s)) x = 0 := qsum_no _ _ (by
        rintro ⟨p, hp, e⟩
        obtain ⟨s, hs, rfl⟩ := List.mem_map.1 hp
        simp only at e
        subst e
        exact hx (List.mem_filter.1 hs).1)
      rw [List.filter_cons]
      by_cases hf : f x = 0
      · rw [if_neg (by simpa using hf), hno, hf]
      · rw [if_pos (by simpa using hf), List.map_cons, qsum_cons, if_pos rfl, hno]
        simp
    · have ih := qsum_map r f t h2 (fun ht => h (by simp [Ne.symm e, ht]))
      rw [List.filter_cons]
      split
      · rw [List.map_cons, qsum_cons, if_neg e, ih]; simp
      · exact ih

theorem qsum_merge (ps : List Pl) (t : ByteArray) : qsum (mergeF ps) t = valF ps t :=
  qsum_map (namesF ps) (valF ps) t (names_sorted ps) fun h => by
    rw [mem_names] at h
    rw [valF, qsum_no ps t h]; rfl

/-- Each amount is small and not below nothing. -/
def Small (ps : List Pl) : Prop := ∀ p ∈ ps, 0 ≤ p.2 ∧ p.2 ≤ 1125899906842624
theorem qsum_small : ∀ (ps : List Pl) (s : ByteArray), Small ps → 0 ≤ qsum ps s ∧ qsum ps s ≤ (ps.length : Int) * 1125899906842624
  | [], s, _ => by simp [qsum]
  | p :: r, s, h => by
    have h1 := qsum_small r s fun q hq => h q (List.mem_cons_of_mem _ hq)
    have h2 := h p (List.mem_cons_self ..)
    rw [qsum_cons, List.length_cons]
    push_cast
    split <;> omega

theorem merges_law {a b : List Pl} (ha : Small a) (hb : Small b) (la : a.length ≤ 60) (lb : b.length ≤ 60) : mergeF (a ++ b) = mergeF (mergeF a ++ mergeF b) := by
  refine merge_ext fun s => ?_
  have h1 := qsum_small a s ha
  have h2 := qsum_small b s hb
  unfold valF
  rw [qsum_append, qsum_append, qsum_merge, qsum_merge]
  unfold valF
  rw [addF_small (S := qsum a s) (by omega) (by omega), addF_small (S := qsum b s) (by omega) (by omega)]

/-! What stocks are worth in all. -/
def totW : List Stk → Int
  | [] => 0
  | x :: r => (if x.pledge = false then 0 else (worthF x.qty x.price x.cut).1) + totW r
def allW : List Stk → Bool
  | [] => true
  | x :: r => (x.pledge = false || (worthF x.qty x.price x.cut).2 = 0) && allW r
theorem totW_nonneg : ∀ (l : List Stk), 0 ≤ totW l
  | [] => by simp [totW]
  | x :: r => by
    have := totW_nonneg r
    have h := (worth_bd x.qty x.price x.cut).1
    rw [totW]
    split <;> omega
theorem totW_append : ∀ (l m : List Stk), totW (l ++ m) = totW l + totW m
  | [], m => by simp [totW]
  | x :: r, m => by rw [List.cons_append, totW, totW, totW_append r m]; omega
theorem allW_append : ∀ (l m : List Stk), allW (l ++ m) = (allW l && allW m)
  | [], m => by simp [allW]
  | x :: r, m => by rw [List.cons_append, allW, allW, allW_append r m, Bool.and_assoc]

theorem worth_tot : ∀ (l : List Stk) (a : Int), 0 ≤ a → a ≤ 1152921504606846976 →
    (allW l = true ∧ a + totW l ≤ 1152921504606846976 ∧ worthAll a l = (a + totW l, 0)) ∨ ((allW l = false ∨ 1152921504606846976 < a + totW l) ∧ (worthAll a l).2 ≠ 0 ∧ (worthAll a l).1 = 0)
  | [], a, _, h1 => .inl ⟨rfl, by simpa [totW] using h1, by simp [worthAll, totW]⟩
  | x :: r, a, h0, h1 => by
    have hn := totW_nonneg r
    rw [worthAll, totW, allW]
    by_cases hp : x.pledge = false
    · rw [if_pos hp, if_pos hp]
      have := worth_tot r a h0 h1
      simpa [hp] using this
    · rw [if_neg hp, if_neg hp]
      have hb := worth_bd x.qty x.price x.cut
      generalize worthF x.qty x.price x.cut = y at *
      obtain ⟨y1, y2⟩ := y
      simp only at hb ⊢
      by_cases hy : y2 = 0
      · subst hy
        rw [if_neg (by simp)]
        by_cases hs : a + y1 ≤ 1152921504606846976
        · rw [addF_small (by omega) hs, if_neg (by simp)]
          have := worth_tot r (a + y1) (by omega) hs
          simp only
          rw [show a + (y1 + totW r) = a + y1 + totW r by omega]
          simpa using this
        · have e : (addF (a + y1)).2 = true := by rw [addF, if_neg (by omega)]
          rw [if_pos e]
          exact .inr ⟨.inr (by omega), by simp, rfl⟩
      · rw [if_pos hy]
        exact .inr ⟨.inl (by simp [hp, hy]), hy, rfl⟩

/-- What the statement asks of the three worths. -/
theorem worths_law (l m : List Stk) :
    ((worthAll 0 l).2 = 0 → (worthAll 0 m).2 = 0 → (worthAll 0 l).1 + (worthAll 0 m).1 ≤ 1152921504606846976 → (worthAll 0 (l ++ m)).2 = 0 ∧ (worthAll 0 (l ++ m)).1 = (worthAll 0 l).1 + (worthAll 0 m).1) ∧
    ((worthAll 0 l).2 = 0 ∧ (worthAll 0 m).2 = 0 ∨ (worthAll 0 (l ++ m)).2 ≠ 0) := by
  have h1 := worth_tot l 0 (by omega) (by omega)
  have h2 := worth_tot m 0 (by omega) (by omega)
  have h3 := worth_tot (l ++ m) 0 (by omega) (by omega)
  rw [totW_append, allW_append] at h3
  have n1 := totW_nonneg l
  have n2 := totW_nonneg m
  constructor
  · intro e1 e2 hle
    rcases h1 with ⟨a1, a2, a3⟩ | ⟨_, a2, _⟩
    · rcases h2 with ⟨b1, b2, b3⟩ | ⟨_, b2, _⟩
      · rw [a3, b3] at hle
        simp only at hle
        rcases h3 with ⟨_, _, c3⟩ | ⟨c1 | c1, _, _⟩
        · rw [c3, a3, b3]; exact ⟨rfl, by simp only; omega⟩
        · rw [a1, b1] at c1; cases c1
        · omega
      · exact absurd e2 b2
    · exact absurd e1 a2
  · by_cases hg : (worthAll 0 (l ++ m)).2 = 0
    · left
      rcases h3 with ⟨c1, c2, _⟩ | ⟨_, c2, _⟩
      · rw [Bool.and_eq_true] at c1
        constructor
        · rcases h1 with ⟨_, _, a3⟩ | ⟨a1 | a1, _, _⟩
          · rw [a3]
          · rw [c1.1] at a1; cases a1
          · omega
        · rcases h2 with ⟨_, _, a3⟩ | ⟨a1 | a1, _, _⟩
          · rw [a3]
          · rw [c1.2] at a1; cases a1
          · omega
      · exact absurd hg c2
    · exact .inr hg

end Go.Proofs.Ytnehamkpeeadjaa
