/-
  Plain law: what is picked is found again among the stocks, in their order, and is worth enough.
-/
import Derived.Test.YtnehamkpeeadjaaValG
namespace Go.Proofs.Ytnehamkpeeadjaa
open Go.RowKit

theorem pick_step {lack : Int} {x : Stk} {r : List Stk} {q : ByteArray × Int} {ps : List (ByteArray × Int)} {f : Int} (h : pickF lack (x :: r) = (q :: ps, f)) :
    0 < lack ∧ ((0 < (muchF lack x).1 ∧ q = (x.name, (muchF lack x).1) ∧ pickF (lack - (muchF lack x).2) r = (ps, f)) ∨ ((muchF lack x).1 ≤ 0 ∧ pickF lack r = (q :: ps, f))) := by
  by_cases hl : lack ≤ 0
  · rw [pick_done hl] at h; simp at h
  · refine ⟨by omega, ?_⟩
    rw [pickF, if_neg hl] at h
    by_cases hm : 0 < (muchF lack x).1
    · left
      rw [if_pos hm] at h
      simp only [List.cons_append, List.nil_append, Prod.mk.injEq, List.cons.injEq] at h
      exact ⟨hm, h.1.1.symm, Prod.ext h.1.2 h.2⟩
    · right
      have e := much_nil lack x (by omega)
      rw [if_neg hm, e] at h
      simp only [List.nil_append, Int.sub_zero] at h
      exact ⟨by omega, h⟩

theorem pick_names : ∀ (l : List Stk) (a : Int), ∀ q ∈ (pickF a l).1, ∃ x ∈ l, x.name = q.1
  | [], _, q, hq => by simp [pickF] at hq
  | x :: r, a, q, hq => by
    by_cases ha : a ≤ 0
    · rw [pick_done ha] at hq; simp at hq
    · rw [pickF, if_neg ha, List.mem_append] at hq
      rcases hq with hq | hq
      · split at hq
        · simp at hq; subst hq; exact ⟨x, List.mem_cons_self .., rfl⟩
        · simp at hq
      · obtain ⟨y, hy, e⟩ := pick_names r _ q hq
        exact ⟨y, List.mem_cons_of_mem _ hy, e⟩

/-- The state of the search: the picks from i on are what is picked of the stocks from a on; what was picked before is worth enough. -/
def Found (want : Int) (l : List Stk) (p : List (ByteArray × Int)) (i a : Nat) (sum : Int) : Prop :=
  ∃ lack, pickF lack (l.drop a) = (p.drop i, (pickF want l).2) ∧ (want - lack ≤ sum ∨ sum = 1152921504606846976) ∧ 0 ≤ sum ∧ sum ≤ 1152921504606846976

def addF (S : Int) : Int × Bool := if -1152921504606846976 ≤ S ∧ S ≤ 1152921504606846976 then (S, false) else (if S < 0 then -1152921504606846976 else 1152921504606846976, true)

theorem found_start (want : Int) (l : List Stk) : Found want l (pickF want l).1 0 0 0 :=
  ⟨want, rfl, .inl (by omega), by omega, by omega⟩

theorem found_end {want : Int} {l : List Stk} {p : List (ByteArray × Int)} {a : Nat} {sum : Int} (h : Found want l p p.length a sum) (h0 : (pickF want l).2 ≤ 0) (hw : want ≤ 1152921504606846976) : want ≤ sum := by
  obtain ⟨lack, h1, h2, h3, h4⟩ := h
  rw [List.drop_length] at h1
  have key : ∀ (m : List Stk) (k : Int), (pickF k m).1 = [] → (pickF k m).2 = k := by
    intro m
    induction m with
    | nil => intro k _; rfl
    | cons x r ih =>
      intro k hk
      by_cases hk0 : k ≤ 0
      · rw [pick_done hk0]
      · rw [pickF, if_neg hk0] at hk ⊢
        have hk1 := List.append_eq_nil_iff.1 hk
        by_cases hm : 0 < (muchF k x).1
        · rw [if_pos hm] at hk1; simp at hk1
        · have e := much_nil k x (by omega)
          rw [e] at hk1 ⊢
          simp only [Int.sub_zero] at hk1 ⊢
          exact ih k hk1.2
  have := key (l.drop a) lack (by rw [h1])
  rw [h1] at this
  simp only at this
  omega

/-- The stock at hand is not the one that was picked: go on. -/
def GoesOn (x : Stk) (q : ByteArray × Int) : Prop := x.name ≠ q.1 ∨ x.pledge = false ∨ x.unit < 1 ∨ q.2 % x.unit ≠ 0 ∨ x.qty < q.2

theorem drop_cons {l : List Stk} {a : Nat} (h : a < l.length) (d : Stk) : l.drop a = l.getD a d :: l.drop (a + 1) := by
  rw [List.drop_eq_getElem_cons h]
  simp [List.getD, h]

theorem found_step {want : Int} {l : List Stk} {p : List (ByteArray × Int)} {i a : Nat} {sum : Int} (d : Stk) (dq : ByteArray × Int) (hi : i < p.length) (h : Found want l p i a sum)
    (hd : ∀ j k, k < j → j < l.length → (l.getD j d).name ≠ (l.getD k d).name) :
    a < l.length ∧ ((GoesOn (l.getD a d) (p.getD i dq) ∧ Found want l p i (a + 1) sum) ∨
      (¬ GoesOn (l.getD a d) (p.getD i dq) ∧ 1 ≤ (p.getD i dq).2 ∧ (worthF (p.getD i dq).2 (l.getD a d).price (l.getD a d).cut).2 = 0 ∧
        Found want l p (i + 1) (a + 1) (addF (sum + (worthF (p.getD i dq).2 (l.getD a d).price (l.getD a d).cut).1)).1)) := by
  obtain ⟨lack, h1, h2, h3, h4⟩ := h
  have hp : p.drop i = p.getD i dq :: p.drop (i + 1) := by
    rw [List.drop_eq_getElem_cons hi]
    simp [List.getD, hi]
  rw [hp] at h1
  have ha : a < l.length := by
    rcases Nat.lt_or_ge a l.length with h | h
    · exact h
    · rw [List.drop_eq_nil_of_le h] at h1
      simp [pickF] at h1
  refine ⟨ha, ?_⟩
  rw [drop_cons ha d] at h1
  obtain ⟨hl, hs | hs⟩ := pick_step h1
  · right
    obtain ⟨g1, g2, g3⟩ := hs
    obtain ⟨m1, m2, m3⟩ := much_pos _ _ g1
    obtain ⟨k1, k2, k3⟩ := ok_yes m1
    have hb := pickQ_bd (lack := lack) m1
    rw [← m2] at hb
    rw [g2]
    have hmw := much_bd lack (l.getD a d)
    generalize muchF lack (l.getD a d) = mm at *
    refine ⟨?_, by omega, by simp only; rw [m3], ?_⟩
    · rintro (hh | hh | hh | hh | hh)
      · exact hh rfl
      · rw [k1] at hh; cases hh
      · omega
      · exact hh hb.2.2
      · simp only at hh; omega
    · refine ⟨_, g3, ?_, ?_⟩
      · simp only; rw [m3]
        unfold addF
        by_cases hc : sum + mm.2 ≤ 1152921504606846976
        · rw [if_pos ⟨by simp only; omega, by simpa using hc⟩]
          simp only
          omega
        · rw [if_neg (by simp only; omega), if_neg (by simp only; omega)]
          simp
      · simp only; rw [m3]
        unfold addF
        by_cases hc : sum + mm.2 ≤ 1152921504606846976
        · rw [if_pos ⟨by simp only; omega, by simpa using hc⟩]
          simp only
          omega
        · rw [if_neg (by simp only; omega), if_neg (by simp only; omega)]
          simp
  · left
    obtain ⟨_, g⟩ := hs
    refine ⟨.inl ?_, lack, by rw [g, hp], h2, h3, h4⟩
    have hq : p.getD i dq ∈ (pickF lack (l.drop (a + 1))).1 := by rw [g]; exact List.mem_cons_self ..
    obtain ⟨y, hy, e⟩ := pick_names _ _ _ hq
    rw [← e]
    obtain ⟨j, hj, rfl⟩ := List.mem_iff_getElem.1 hy
    rw [List.length_drop] at hj
    rw [List.getElem_drop]
    have := hd (a + 1 + j) a (by omega) (by omega)
    rw [show l[a + 1 + j] = l.getD (a + 1 + j) d by simp [List.getD, show a + 1 + j < l.length by omega]]
    exact fun h => this h.symm

theorem addF_small {S : Int} (h0 : -1152921504606846976 ≤ S) (h1 : S ≤ 1152921504606846976) : addF S = (S, false) := by rw [addF, if_pos ⟨h0, h1⟩]

/-! The sum in two words. -/
/-- The two words hold the sum. -/
def Two64 (S : Int) (hi lo : Nat) : Prop := (lo : Int) = S % 18446744073709551616 ∧ (hi : Int) = (S / 18446744073709551616) % 18446744073709551616

theorem two_step {S x : Int} {hi lo xm sg : Nat} (h : Two64 S hi lo) (h0 : -9223372036854775808 ≤ x) (h1 : x ≤ 9223372036854775807) (hx : (xm : Int) = x % 18446744073709551616) (hs : (sg : Int) = (x / 9223372036854775808) % 18446744073709551616) :
    Two64 (S + x) (((hi + sg + (lo + xm) / 18446744073709551616) % 18446744073709551616)) ((lo + xm) % 18446744073709551616) := by
  obtain ⟨a, b⟩ := h
  unfold Two64
  omega

theorem two_low {S : Int} {hi lo : Nat} (h : Two64 S hi lo) (h1 : -170141183460469231731687303715884105728 ≤ S) (h2 : S ≤ 170141183460469231731687303715884105727) : (hi / 9223372036854775808 = 1 ↔ S < 0) := by
  obtain ⟨a, b⟩ := h
  omega

theorem two_end {S : Int} {hi lo : Nat} (h : Two64 S hi lo) (h1 : -170141183460469231731687303715884105728 ≤ S) (h2 : S ≤ 170141183460469231731687303715884105727) (s : Int) (hs : s = (if lo < 9223372036854775808 then (lo : Int) else (lo : Int) - 18446744073709551616)) :
   ((hi : Int) = (s / 9223372036854775808) % 18446744073709551616 ∧ -1152921504606846976 ≤ s ∧ s ≤ 1152921504606846976 ↔ -1152921504606846976 ≤ S ∧ S ≤ 1152921504606846976) ∧ (-1152921504606846976 ≤ S → S ≤ 1152921504606846976 → s = S) := by
  obtain ⟨a, b⟩ := h
  split at hs <;> omega

end Go.Proofs.Ytnehamkpeeadjaa
