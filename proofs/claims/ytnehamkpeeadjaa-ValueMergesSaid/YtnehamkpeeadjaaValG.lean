/-
  Plain law: what is picked of stocks.
-/
import Derived.Test.YtnehamkpeeadjaaValE
namespace Go.Proofs.Ytnehamkpeeadjaa
open Go.RowKit

/-- A stock. -/
structure Stk where
  name : ByteArray
  cash : Bool
  pledge : Bool
  unit : Int
  least : Int
  price : Int
  cut : Int
  close : Int
  qty : Int

/-- The least quantity that is worth so much, if there is one. -/
def needF (v p c : Int) : Option Int :=
  if wrongB v p c then none else ((List.range ((mostF p).toNat + 1)).find? fun k : Nat => decide (v ≤ (worthF (k : Int) p c).1)).map Int.ofNat

theorem needF_some {v p c n : Int} (hw : wrongB v p c = false) (h0 : 0 ≤ n) (hm : n ≤ mostF p) (h1 : v ≤ (worthF n p c).1) (h2 : ∀ k, 0 ≤ k → k < n → (worthF k p c).1 < v) : needF v p c = some n := by
  obtain ⟨m, rfl⟩ := Int.eq_ofNat_of_zero_le h0
  rw [needF, hw, if_neg (by simp)]
  have : (List.range ((mostF p).toNat + 1)).find? (fun k : Nat => decide (v ≤ (worthF (k : Int) p c).1)) = some m := by
    rw [List.find?_range_eq_some]
    refine ⟨by simpa using h1, by simp; omega, fun j hj => ?_⟩
    have := h2 j (by omega) (by omega)
    simp; omega
  rw [this]; rfl

theorem needF_none {v p c : Int} (h : ∀ k, 0 ≤ k → k ≤ mostF p → (worthF k p c).1 < v) : needF v p c = none := by
  unfold needF
  split
  · rfl
  · have : (List.range ((mostF p).toNat + 1)).find? (fun k : Nat => decide (v ≤ (worthF (k : Int) p c).1)) = none := by
      rw [List.find?_eq_none]
      intro k hk
      have hm := (most_bd p).1
      have hk2 : k < (mostF p).toNat + 1 := by simpa using hk
      have := h k (by omega) (by omega)
      simp; omega
    rw [this]; rfl

theorem need_is {v p c n e : Int} (h : NeedIs v p c n e) : (e = 0 ∧ needF v p c = some n ∧ 0 ≤ n ∧ n ≤ mostF p) ∨ ((e = 1 ∨ e = 32) ∧ needF v p c = none) := by
  rcases h with ⟨h1, _, rfl⟩ | ⟨h1, rfl, h2, h3, h4, h5⟩ | ⟨h1, rfl, _, h2⟩
  · exact .inr ⟨.inl rfl, by rw [needF, if_pos h1]⟩
  · exact .inl ⟨rfl, needF_some h1 h2 h3 h4 h5, h2, h3⟩
  · exact .inr ⟨.inr rfl, needF_none h2⟩

theorem needF_spec {v p c n : Int} (h : needF v p c = some n) : wrongB v p c = false ∧ 0 ≤ n ∧ n ≤ mostF p ∧ v ≤ (worthF n p c).1 ∧ ∀ k, 0 ≤ k → k < n → (worthF k p c).1 < v := by
  cases hw : wrongB v p c with
  | true => rw [needF, if_pos hw] at h; cases h
  | false =>
    rw [needF, hw, if_neg (by simp)] at h
    obtain ⟨m, hm, rfl⟩ := Option.map_eq_some_iff.1 h
    rw [List.find?_range_eq_some] at hm
    obtain ⟨h1, h2, h3⟩ := hm
    have hb := (most_bd p).1
    have h2' : m < (mostF p).toNat + 1 := by simpa using h2
    refine ⟨rfl, by simp, by simp; omega, by simpa using h1, fun k hk hk2 => ?_⟩
    obtain ⟨j, rfl⟩ := Int.eq_ofNat_of_zero_le hk
    have := h3 j (by simp at hk2; omega)
    simpa using this

/-- The least multiple of a unit not below n, if it is not above another number. -/
def upF (n u m : Int) : Option Int :=
  if m < n then none else if n % u = 0 then some n else if m - n < u - n % u then none else some (n + u - n % u)

theorem emod_bd {n u : Int} (hu : 1 ≤ u) : 0 ≤ n % u ∧ n % u < u := ⟨Int.emod_nonneg _ (by omega), Int.emod_lt_of_pos _ (by omega)⟩

theorem up_some {n u m q : Int} (hu : 1 ≤ u) (h : upF n u m = some q) : n ≤ q ∧ q ≤ m ∧ q % u = 0 ∧ q < n + u := by
  have hb := emod_bd (n := n) hu
  unfold upF at h
  split at h
  · cases h
  · split at h
    · injection h with h; subst h; omega
    · split at h
      · cases h
      · injection h with h
        subst h
        refine ⟨by omega, by omega, ?_, by omega⟩
        rw [show n + u - n % u = (n - n % u) + u by omega, Int.add_emod_right, Int.sub_emod]
        simp

theorem up_none {n u m : Int} (hu : 1 ≤ u) (h : upF n u m = none) : ∀ q, n ≤ q → q % u = 0 → m < q := by
  have hb := emod_bd (n := n) hu
  intro q hq h0
  unfold upF at h
  split at h
  · omega
  · split at h
    · cases h
    · split at h
      · rename_i h1 h2 h3
        have e1 : (q - n) % u = (u - n % u) % u := by
          rw [Int.sub_emod, h0, Int.sub_emod u, Int.emod_self, Int.emod_emod_of_dvd _ (Int.dvd_refl u)]
        have e2 : (u - n % u) % u = u - n % u := Int.emod_eq_of_lt (by omega) (by omega)
        have e3 : (q - n) % u ≤ q - n := by
          have := Int.emod_add_mul_ediv (q - n) u
          have h5 : 0 ≤ (q - n) / u := Int.ediv_nonneg (by omega) (by omega)
          have h6 : 0 ≤ u * ((q - n) / u) := Int.mul_nonneg (by omega) h5
          omega
        omega
      · cases h

theorem mult_le {a b u : Int} (_ : 1 ≤ u) (ha : a % u = 0) (hb : b % u = 0) (h : a < b + u) : a ≤ b := by
  rcases Int.lt_or_le b a with hlt | hle
  · exfalso
    have e : (a - b) % u = 0 := by rw [Int.sub_emod, ha, hb]; simp
    rw [Int.emod_eq_of_lt (by omega) (by omega)] at e
    omega
  · exact hle

theorem up_mono {n1 n2 u m q2 : Int} (hu : 1 ≤ u) (h : n1 ≤ n2) (h2 : upF n2 u m = some q2) : ∃ q1, upF n1 u m = some q1 ∧ q1 ≤ q2 := by
  obtain ⟨a1, a2, a3, a4⟩ := up_some hu h2
  cases h1 : upF n1 u m with
  | none => have := up_none hu h1 q2 (by omega) a3; omega
  | some q1 =>
    obtain ⟨b1, b2, b3, b4⟩ := up_some hu h1
    exact ⟨q1, rfl, mult_le hu b3 a3 (by omega)⟩

/-- How much is picked of a stock, and what that is worth. -/
def pickQ (lack : Int) (x : Stk) : Int := (((needF lack x.price x.cut).bind fun n => upF n x.unit x.qty).getD (x.qty - x.qty % x.unit))
def okB (x : Stk) : Bool := x.pledge && decide (1 ≤ x.unit) && decide (1 ≤ x.qty)
def muchF (lack : Int) (x : Stk) : Int × Int :=
  if okB x = false then (0, 0) else
  if (worthF (pickQ lack x) x.price x.cut).2 ≠ 0 ∨ (worthF (pickQ lack x) x.price x.cut).1 = 0 then (0, 0) else (pickQ lack x, (worthF (pickQ lack x) x.price x.cut).1)

theorem ok_yes {x : Stk} (h : okB x = true) : x.pledge = true ∧ 1 ≤ x.unit ∧ 1 ≤ x.qty := by
  simpa [okB, and_assoc] using h

theorem all_is {q u : Int} (hu : 1 ≤ u) (hq : 1 ≤ q) : 0 ≤ q - q % u ∧ q - q % u ≤ q ∧ (q - q % u) % u = 0 := by
  have hb := emod_bd (n := q) hu
  have h2 : q % u ≤ q := by
    have := Int.emod_add_mul_ediv q u
    have h5 : 0 ≤ q / u := Int.ediv_nonneg (by omega) (by omega)
    have h6 : 0 ≤ u * (q / u) := Int.mul_nonneg (by omega) h5
    omega
  refine ⟨by omega, by omega, ?_⟩
  rw [Int.sub_emod]; simp

theorem pickQ_bd {lack : Int} {x : Stk} (h : okB x = true) : 0 ≤ pickQ lack x ∧ pickQ lack x ≤ x.qty ∧ pickQ lack x % x.unit = 0 := by
  obtain ⟨_, h1, h2⟩ := ok_yes h
  unfold pickQ
  cases hn : needF lack x.price x.cut with
  | none => simpa using all_is h1 h2
  | some n =>
    simp only [Option.bind_some]
    cases hu : upF n x.unit x.qty with
    | none => simpa using all_is h1 h2
    | some q =>
      obtain ⟨a1, a2, a3, a4⟩ := up_some h1 hu
      have := (needF_spec hn).2.1
      simp only [Option.getD_some]
      exact ⟨by omega, a2, a3⟩

theorem worth_bd (q p c : Int) : 0 ≤ (worthF q p c).1 ∧ (worthF q p c).1 ≤ 1152921504606846976 := by
  unfold worthF
  cases hw : wrongB q p c with
  | true => simp
  | false =>
    simp [wrongB] at hw
    obtain ⟨⟨⟨n1, n2⟩, n3⟩, n4⟩ := hw
    rw [if_neg (by simp)]
    split
    · simp
    · rename_i h
      have hqp : 0 ≤ q * p := Int.mul_nonneg n1 n2
      have h1 : 0 ≤ q * p * (10000 - c) := Int.mul_nonneg hqp (by omega)
      have h2 : q * p * (10000 - c) ≤ q * p * 10000 := Int.mul_le_mul_of_nonneg_left (by omega) hqp
      refine ⟨Int.ediv_nonneg h1 (by omega), ?_⟩
      show q * p * (10000 - c) / 10000 ≤ _
      omega

/-- More is worth no less, if it can be valued at all. -/
theorem worth_up {a b p c : Int} (h0 : 0 ≤ a) (h : a ≤ b) (hb : (worthF b p c).2 = 0) : (worthF a p c).2 = 0 ∧ (worthF a p c).1 ≤ (worthF b p c).1 := by
  cases hw : wrongB b p c with
  | true => rw [worthF, if_pos hw] at hb; simp at hb
  | false =>
    have hw' := hw
    simp [wrongB] at hw'
    obtain ⟨⟨⟨n1, n2⟩, n3⟩, n4⟩ := hw'
    have ha : wrongB a p c = false := by simp [wrongB]; omega
    have hm : a * p ≤ b * p := Int.mul_le_mul_of_nonneg_right h n2
    by_cases hg : 1152921504606846976 < b * p
    · rw [worthF, hw, if_neg (by simp), if_pos hg] at hb; simp at hb
    · have e1 : worthF a p c = (a * p * (10000 - c) / 10000, 0) := by rw [worthF, ha, if_neg (by simp), if_neg (by omega)]
      have e2 : worthF b p c = (b * p * (10000 - c) / 10000, 0) := by rw [worthF, hw, if_neg (by simp), if_neg hg]
      rw [e1, e2]
      exact ⟨rfl, Int.ediv_le_ediv (by omega) (Int.mul_le_mul_of_nonneg_right hm (by omega))⟩

theorem worth_pos {v p c n : Int} (h0 : 0 < v) (h1 : v ≤ (worthF n p c).1) : (worthF n p c).2 = 0 := by
  unfold worthF at h1 ⊢
  split
  · rename_i h; rw [if_pos h] at h1; simp at h1; omega
  · rename_i h
    rw [if_neg h] at h1
    split
    · rename_i h2; rw [if_pos h2] at h1; simp at h1; omega
    · rfl

theorem much_bd (lack : Int) (x : Stk) : 0 ≤ (muchF lack x).1 ∧ 0 ≤ (muchF lack x).2 ∧ (muchF lack x).2 ≤ 1152921504606846976 := by
  unfold muchF
  split
  · simp
  · rename_i h
    have hok : okB x = true := by cases hh : okB x with | true => rfl | false => exact absurd hh h
    split
    · simp
    · exact ⟨(pickQ_bd hok).1, worth_bd _ _ _⟩

/-- Something is picked just if it is worth something. -/
theorem much_pos (lack : Int) (x : Stk) (h : 0 < (muchF lack x).1) : okB x = true ∧ (muchF lack x).1 = pickQ lack x ∧ worthF (muchF lack x).1 x.price x.cut = ((muchF lack x).2, 0) := by
  unfold muchF at h ⊢
  split at h
  · simp at h
  · rename_i h1
    have hok : okB x = true := by cases hh : okB x with | true => rfl | false => exact absurd hh h1
    split at h
    · simp at h
    · rename_i h2
      rw [if_neg h1, if_neg h2]
      refine ⟨hok, rfl, Prod.ext rfl ?_⟩
      exact Decidable.byContradiction fun h3 => h2 (.inl h3)

theorem much_nil (lack : Int) (x : Stk) (h : (muchF lack x).1 ≤ 0) : muchF lack x = (0, 0) := by
  unfold muchF at h ⊢
  split
  · rfl
  · rename_i h1
    rw [if_neg h1] at h
    have hok : okB x = true := by cases hh : okB x with | true => rfl | false => exact absurd hh h1
    split
    · rfl
    · rename_i h2
      rw [if_neg h2] at h
      have h3 := (pickQ_bd (lack := lack) hok).1
      have e : pickQ lack x = 0 := by simp at h; omega
      exfalso
      apply h2
      rw [e]
      unfold worthF
      split
      · exact .inl (by simp)
      · rw [if_neg (by omega)]
        exact .inr (by simp)

/-- Who lacks less has no more left to pick behind a stock. -/
theorem much_mono {a b : Int} (x : Stk) (h0 : 0 < a) (h : a ≤ b) : a - (muchF a x).2 ≤ 0 ∨ a - (muchF a x).2 ≤ b - (muchF b x).2 := by
  cases hok : okB x with
  | false => right; rw [muchF, muchF, if_pos hok, if_pos hok]; simpa using h
  | true =>
    obtain ⟨_, hu, hq⟩ := ok_yes hok
    have hall := all_is hu hq
    have key : ∀ q, pickQ b x = q → (∃ n1 q1, needF a x.price x.cut = some n1 ∧ upF n1 x.unit x.qty = some q1 ∧ pickQ a x = q1 ∧ q1 ≤ q) ∨ pickQ a x = pickQ b x := by
      intro q hqe
      cases hna : needF a x.price x.cut with
      | none =>
        right
        have hnb : needF b x.price x.cut = none := by
          cases hnb : needF b x.price x.cut with
          | none => rfl
          | some n2 =>
            exfalso
            obtain ⟨c1, c2, c3, c4, c5⟩ := needF_spec hnb
            have hwa : wrongB a x.price x.cut = false := by simp [wrongB] at c1 ⊢; omega
            rw [needF, hwa, if_neg (by simp)] at hna
            have hna' := Option.map_eq_none_iff.1 hna
            rw [List.find?_eq_none] at hna'
            have := hna' n2.toNat (by simp; omega)
            apply this
            have e : (n2.toNat : Int) = n2 := by omega
            rw [e]
            simp; omega
        rw [pickQ, pickQ, hna, hnb]
      | some n1 =>
        cases hua : upF n1 x.unit x.qty with
        | none =>
          right
          rw [pickQ, pickQ, hna]
          cases hnb : needF b x.price x.cut with
          | none => simp [hua]
          | some n2 =>
            simp only [Option.bind_some]
            cases hub : upF n2 x.unit x.qty with
            | none => rw [hua]
            | some q2 =>
              exfalso
              obtain ⟨c1, c2, c3, c4, c5⟩ := needF_spec hnb
              obtain ⟨d1, d2, d3, d4, d5⟩ := needF_spec hna
              have hle : n1 ≤ n2 := by
                rcases Int.lt_or_le n2 n1 with hlt | hle
                · have := d5 n2 c2 hlt; omega
                · exact hle
              obtain ⟨q1, e1, _⟩ := up_mono hu hle hub
              rw [e1] at hua; cases hua
        | some q1 =>
          left
          refine ⟨n1, q1, rfl, hua, by rw [pickQ, hna, Option.bind_some, hua]; rfl, ?_⟩
          obtain ⟨u1, u2, u3, u4⟩ := up_some hu hua
          have hallq : q1 ≤ x.qty - x.qty % x.unit := by
            refine mult_le hu u3 hall.2.2 ?_
            have := (emod_bd (n := x.qty) hu).2
            omega
          rw [← hqe, pickQ]
          cases hnb : needF b x.price x.cut with
          | none => simpa using hallq
          | some n2 =>
            simp only [Option.bind_some]
            cases hub : upF n2 x.unit x.qty with
            | none => simpa using hallq
            | some q2 =>
              obtain ⟨c1, c2, c3, c4, c5⟩ := needF_spec hnb
              obtain ⟨d1, d2, d3, d4, d5⟩ := needF_spec hna
              have hle : n1 ≤ n2 := by
                rcases Int.lt_or_le n2 n1 with hlt | hle
                · have := d5 n2 c2 hlt; omega
                · exact hle
              obtain ⟨q1', e1, e2⟩ := up_mono hu hle hub
              rw [hua] at e1
              injection e1 with e1
              subst e1
              simpa using e2
    rcases key _ rfl with ⟨n1, q1, e1, e2, e3, e4⟩ | e
    · have hs := needF_spec e1
      have h1 := up_some hu e2
      by_cases hz : (worthF q1 x.price x.cut).2 = 0
      · left
        have := (worth_up hs.2.1 h1.1 hz).2
        have hv : a ≤ (worthF q1 x.price x.cut).1 := by omega
        rw [muchF, if_neg (by rw [hok]; simp), e3, if_neg (by intro hh; rcases hh with hh | hh; exact hh hz; omega)]
        show a - (worthF q1 x.price x.cut).1 ≤ 0
        omega
      · right
        have hz2 : (worthF (pickQ b x) x.price x.cut).2 ≠ 0 := fun hh => hz (worth_up (by omega) e4 hh).1
        rw [muchF, if_neg (by rw [hok]; simp), e3, if_pos (.inl hz), muchF, if_neg (by rw [hok]; simp), if_pos (.inl hz2)]
        simpa using h
    · right
      rw [muchF, muchF, e, if_neg (by rw [hok]; simp)]
      split
      · simpa using h
      · show a - (worthF (pickQ b x) x.price x.cut).1 ≤ b - (worthF (pickQ b x) x.price x.cut).1
        omega

/-- What is picked of all, and what is left to pick. -/
def pickF (lack : Int) : List Stk → List (ByteArray × Int) × Int
  | [] => ([], lack)
  | x :: r => if lack ≤ 0 then ([], lack) else
    ((if 0 < (muchF lack x).1 then [(x.name, (muchF lack x).1)] else []) ++ (pickF (lack - (muchF lack x).2) r).1, (pickF (lack - (muchF lack x).2) r).2)

theorem pick_done {lack : Int} (h : lack ≤ 0) (l : List Stk) : pickF lack l = ([], lack) := by
  cases l with
  | nil => rfl
  | cons x r => rw [pickF, if_pos h]

theorem pick_less : ∀ (l : List Stk) (a b : Int), (a ≤ 0 ∨ a ≤ b) → (pickF b l).2 ≤ 0 → (pickF a l).2 ≤ 0
  | [], a, b, h, hb => by
    simp only [pickF] at hb ⊢
    omega
  | x :: r, a, b, h, hb => by
    by_cases ha : a ≤ 0
    · rw [pick_done ha]; exact ha
    · have hab : a ≤ b := by omega
      rw [pickF, if_neg ha]
      rw [pickF, if_neg (by omega)] at hb
      exact pick_less r _ _ (much_mono x (by omega) hab) hb

theorem pick_more : ∀ (l m : List Stk) (a : Int), (pickF a l).2 ≤ 0 → pickF a (l ++ m) = pickF a l
  | [], m, a, h => by
    simp only [pickF] at h
    rw [List.nil_append, pick_done h, pick_done h]
  | x :: r, m, a, h => by
    by_cases ha : a ≤ 0
    · rw [pick_done ha, pick_done ha]
    · rw [pickF, if_neg ha] at h
      rw [List.cons_append, pickF, if_neg ha, pickF, if_neg ha, pick_more r m _ h]

theorem pick_len : ∀ (l : List Stk) (a : Int), (pickF a l).1.length ≤ l.length
  | [], _ => by simp [pickF]
  | x :: r, a => by
    by_cases ha : a ≤ 0
    · rw [pick_done ha]; simp
    · rw [pickF, if_neg ha]
      have := pick_len r (a - (muchF a x).2)
      simp only [List.length_append, List.length_cons]
      split <;> simp <;> omega

/-- What may not be pledged is not picked. -/
theorem pick_none : ∀ (l : List Stk) (a : Int), (∀ x ∈ l, x.pledge = false) → pickF a l = ([], a)
  | [], _, _ => rfl
  | x :: r, a, h => by
    by_cases ha : a ≤ 0
    · rw [pick_done ha]
    · have hx := h x (List.mem_cons_self ..)
      have e : muchF a x = (0, 0) := by rw [muchF, if_pos (by simp [okB, hx])]
      rw [pickF, if_neg ha, e]
      simp only [Int.lt_irrefl, if_false, List.nil_append, Int.sub_zero]
      exact pick_none r a fun y hy => h y (List.mem_cons_of_mem _ hy)

end Go.Proofs.Ytnehamkpeeadjaa
