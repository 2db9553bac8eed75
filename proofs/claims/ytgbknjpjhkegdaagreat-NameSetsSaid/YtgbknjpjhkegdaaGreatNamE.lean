/-
  What Compare and Valid answer.
-/
import Derived.Test.YtgbknjpjhkegdaaGreatNamD
import Derived.Sort.Walk0
namespace Go.Proofs.YtgbknjpjhkegdaaGreat
open Go.RowKit Go.Maps Go.WideMaps

def cmpS (a b : ByteArray) : Int := if a.data.toList < b.data.toList then -1 else if b.data.toList < a.data.toList then 1 else 0

theorem cmp_lt {a b : ByteArray} (h : Op.bytesLess a.toList b.toList = true) : cmpS a b = -1 := by
  rw [bytesLess_eq, ByteArray.toList_eq, ByteArray.toList_eq, decide_eq_true_eq] at h
  unfold cmpS; rw [if_pos h]
theorem cmp_gt {a b : ByteArray} (h : Op.bytesLess a.toList b.toList = false) (h2 : (!a.toList == b.toList) = true) : cmpS a b = 1 := by
  rw [bytesLess_eq, ByteArray.toList_eq, ByteArray.toList_eq, decide_eq_false_iff_not] at h
  rw [ByteArray.toList_eq, ByteArray.toList_eq] at h2
  have hne : a.data.toList ≠ b.data.toList := by simpa using h2
  unfold cmpS
  rw [if_neg h, if_pos]
  have h3 : b.data.toList ≤ a.data.toList := List.not_lt.1 h
  exact Decidable.byContradiction fun h4 => hne (List.le_antisymm (List.not_lt.1 h4) h3)
theorem cmp_eq {a b : ByteArray} (h2 : (!a.toList == b.toList) = false) : cmpS a b = 0 := by
  rw [ByteArray.toList_eq, ByteArray.toList_eq] at h2
  have he : a.data.toList = b.data.toList := by simpa using h2
  unfold cmpS
  rw [he, if_neg (List.lt_irrefl _), if_neg (List.lt_irrefl _)]

theorem isnan_any (a : ByteArray) (w : World) : Calls Tryz.prog 101 #[.string a] w fun e w' => e = .returned (.bool false) ∧ w = w' := by
  go_enter Tryz.func101, Tryz.ntmps101
  go_wp2
  go_ret
  exact ⟨rfl, rfl⟩

theorem compare_any (a b : ByteArray) (w : World) : Calls Tryz.prog 28 #[.string a, .string b] w fun e w' => e = .returned (.int .i64 (cmpS a b)) ∧ w = w' := by
  obtain ⟨r, hr⟩ : ∃ r, r = cmpS a b := ⟨_, rfl⟩
  rw [← hr]
  have HR := Lib.hid hr
  clear hr
  go_enter Tryz.func28, Tryz.ntmps28
  go_wp2_with (go_at_call 101; refine (isnan_any _ _).mono ?_; rintro e w' ⟨rfl, rfl⟩)
  · have h : Op.bytesLess a.toList b.toList = true := by assumption
    go_ret
    exact ⟨by rw [HR.out, cmp_lt h]; rfl, rfl⟩
  · have h : Op.bytesLess a.toList b.toList = false := by assumption
    have h2 : (!a.toList == b.toList) = true := by assumption
    go_ret
    exact ⟨by rw [HR.out, cmp_gt h h2]; rfl, rfl⟩
  · have h2 : (!a.toList == b.toList) = false := by assumption
    go_ret
    exact ⟨by rw [HR.out, cmp_eq h2]; rfl, rfl⟩

theorem cmp_any (a b : ByteArray) (w : World) : Calls Tryz.prog 15 #[.string a, .string b] w fun e w' => e = .returned (.int .i64 (cmpS a b)) ∧ w = w' := by
  go_enter Tryz.func15, Tryz.ntmps15
  go_wp2_with (go_at_call 28; refine (compare_any _ _ _).mono ?_; rintro e w' ⟨rfl, rfl⟩)
  go_ret
  exact ⟨rfl, rfl⟩

/-- A byte of a text, as a number. -/
def chr (s : ByteArray) (j : Nat) : Int := ((s.data.toList.getD j 0).toNat : Int)
def okAt (j : Nat) (c : Int) : Bool := (decide (65 ≤ c) && decide (c ≤ 90)) || (decide (j ≠ 0) && decide (48 ≤ c) && decide (c ≤ 57))
/-- Can a text be a name? -/
def validB (s : ByteArray) : Bool := decide (1 ≤ s.size) && decide (s.size ≤ 12) && (List.range s.size).all fun j => okAt j (chr s j)

theorem chr_of {s : ByteArray} {k : Nat} (h : k < s.size) : ((s[k].toNat : Nat) : Int) = chr s k := by
  unfold chr
  have h2 : k < s.data.toList.length := by simpa using h
  simp [List.getD]
  rw [Array.getElem?_eq_getElem (by simpa using h)]; rfl

set_option maxHeartbeats 400000 in
theorem valid_any (s : ByteArray) (w : World) (hs : s.size ≤ 200000000000000) : Calls Tryz.prog 13 #[.string s] w fun e w' => e = .returned (.bool (validB s)) ∧ w = w' := by
  by_cases h0 : s.size = 0
  · have hf : validB s = false := by simp [validB, h0]
    have hs0 : s = ⟨#[]⟩ := by
      apply ByteArray.ext
      exact Array.eq_empty_of_size_eq_zero h0
    rw [hf]
    subst hs0
    clear hf h0 hs
    go_enter Tryz.func13, Tryz.ntmps13
    go_wp2
    go_ret
    exact ⟨rfl, rfl⟩
  · have e1 : s.toList.isEmpty = false := by
      rw [ByteArray.toList_eq]
      cases h : s.data.toList with
      | nil => exact absurd (by have := congrArg List.length h; simpa using this) h0
      | cons => rfl
    by_cases h12 : s.size ≤ 12
    · obtain ⟨r, hr⟩ : ∃ r, r = validB s := ⟨_, rfl⟩
      have hv : validB s = (List.range s.size).all fun j => okAt j (chr s j) := by
        have : 1 ≤ s.size := by omega
        simp [validB, h12, this]
      rw [← hr] at hv ⊢
      have HV := Lib.hid hv
      clear hr hv h0
      go_enter Tryz.func13, Tryz.ntmps13
      go_wp2
      go_loop [14] (fun i => ∃ k : Nat, i = .int .i64 k ∧ k ≤ s.size ∧ Hid (∀ j, j < k → okAt j (chr s j) = true)) (fun i => (s.size - RowKit.intOf i).toNat)
      case atStart => exact ⟨0, rfl, Nat.zero_le _, Lib.hid (fun j hj => absurd hj (Nat.not_lt_zero _))⟩
      case round =>
        obtain ⟨k, rfl, hk, A⟩ := hrel
        by_cases hlt : k < s.size
        · have hltz : (k : Int) < (s.size : Int) := by omega
          have hch := chr_of hlt
          have hb := UInt8.toNat_lt s[k]
          have hno : okAt k (chr s k) = false → r = false := fun h => by
            rw [HV.out, List.all_eq_false]
            exact ⟨k, List.mem_range.2 hlt, by rw [h]; simp⟩
          have hgo : okAt k (chr s k) = true → Hid (∀ j, j < k + 1 → okAt j (chr s j) = true) := fun h => Lib.hid (fun j hj => by
            by_cases e : j = k
            · subst e; exact h
            · exact A.out j (by omega))
          have HNO := Lib.hid hno
          have HGO := Lib.hid hgo
          have HCH := Lib.hid hch
          clear hno hgo hch
          by_cases hL : 65 ≤ (s[k].toNat : Int) ∧ (s[k].toNat : Int) ≤ 90
          · have hok : okAt k (chr s k) = true := by rw [← HCH.out]; unfold okAt; simp only [decide_eq_true hL.1, decide_eq_true hL.2]; rfl
            have HO := Lib.hid (HGO.out hok)
            obtain ⟨l1, l2⟩ := hL
            clear hok
            go_wp2
            go_round
            case rel => exact ⟨k + 1, by go_num, by omega, HO.out⟩
            case measure => simp [RowKit.intOf]; omega
          · have hL2 : (s[k].toNat : Int) < 65 ∨ 90 < (s[k].toNat : Int) := by omega
            by_cases hD : 1 ≤ k ∧ 48 ≤ (s[k].toNat : Int) ∧ (s[k].toNat : Int) ≤ 57
            · have hok : okAt k (chr s k) = true := by
                have hk0 : k ≠ 0 := by omega
                rw [← HCH.out]; unfold okAt; simp only [decide_eq_true hD.2.1, decide_eq_true hD.2.2, decide_eq_true hk0, Bool.and_self, Bool.or_true]
              have HO := Lib.hid (HGO.out hok)
              obtain ⟨d0, d1, d2⟩ := hD
              have dk : ((k : Int) == 0) = false := by simp; omega
              clear hok hL hL2
              go_wp2
              go_round
              case rel => exact ⟨k + 1, by go_num, by omega, HO.out⟩
              case measure => simp [RowKit.intOf]; omega
            · have hok : okAt k (chr s k) = false := by
                rw [← HCH.out]; unfold okAt
                simp only [Bool.or_eq_false_iff, Bool.and_eq_false_iff, decide_eq_false_iff_not]
                omega
              have HR := Lib.hid (HNO.out hok)
              have hcase : (k = 0 ∧ (s[k].toNat : Int) < 65) ∨ (k = 0 ∧ 90 < (s[k].toNat : Int)) ∨ (1 ≤ k ∧ (s[k].toNat : Int) < 48) ∨ (1 ≤ k ∧ 57 < (s[k].toNat : Int) ∧ (s[k].toNat : Int) < 65) ∨ (1 ≤ k ∧ 90 < (s[k].toNat : Int)) := by omega
              clear hok hL hL2 hD
              rcases hcase with ⟨rfl, d1⟩ | ⟨rfl, d1⟩ | ⟨d0, d1⟩ | ⟨d0, d1, d2⟩ | ⟨d0, d1⟩
              · go_wp2
                go_ret
                exact ⟨by rw [HR.out]; rfl, rfl⟩
              · have d9 : decide ((s[0].toNat : Int) ≤ 90) = false := by simp; omega
                go_wp2
                go_ret
                exact ⟨by rw [HR.out]; rfl, rfl⟩
              · have dk : ((k : Int) == 0) = false := by simp; omega
                go_wp2
                go_ret
                exact ⟨by rw [HR.out]; rfl, rfl⟩
              · have dk : ((k : Int) == 0) = false := by simp; omega
                go_wp2
                go_ret
                exact ⟨by rw [HR.out]; rfl, rfl⟩
              · have dk : ((k : Int) == 0) = false := by simp; omega
                have d9 : decide ((s[k].toNat : Int) ≤ 90) = false := by simp; omega
                go_wp2
                go_ret
                exact ⟨by rw [HR.out]; rfl, rfl⟩
        · have hltz : ¬ (k : Int) < (s.size : Int) := by omega
          have hr : r = true := by
            rw [HV.out, List.all_eq_true]
            exact fun j hj => A.out j (by have := List.mem_range.1 hj; omega)
          have HR := Lib.hid hr
          clear hr
          go_wp2
          go_ret
          exact ⟨by rw [HR.out]; rfl, rfl⟩
    · have hf : validB s = false := by simp [validB, h12]
      rw [hf]
      clear hf h0
      go_enter Tryz.func13, Tryz.ntmps13
      go_wp2
      go_ret
      exact ⟨rfl, rfl⟩

end Go.Proofs.YtgbknjpjhkegdaaGreat
