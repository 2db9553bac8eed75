/-
  The document's answer: is a text a name?
-/
import Derived.Test.YtgbknjpjhkegdaaGreatBookY
namespace Go.Proofs.YtgbknjpjhkegdaaGreat
open Go.RowKit

set_option maxHeartbeats 1600000 in
theorem refValid_any (s : ByteArray) (w : World) (hs : s.size ≤ 100000) : Calls Tryz.prog 14 #[.string s] w fun e w' => e = .returned (.bool (validB s)) ∧ w = w' := by
  by_cases h0 : s.size = 0
  · have hf : validB s = false := by simp [validB, h0]
    rw [hf]
    have hz : (s.size : Int) < 1 := by omega
    clear hf
    go_enter Tryz.func14, Tryz.ntmps14
    go_wp2
    go_ret
    exact ⟨rfl, rfl⟩
  · have hz : ¬ (s.size : Int) < 1 := by omega
    by_cases h12 : 12 < s.size
    · have hf : validB s = false := by simp [validB]; omega
      rw [hf]
      have hz2 : (12 : Int) < (s.size : Int) := by omega
      clear hf
      go_enter Tryz.func14, Tryz.ntmps14
      go_wp2
      go_ret
      exact ⟨rfl, rfl⟩
    · have hz2 : ¬ (12 : Int) < (s.size : Int) := by omega
      have hlt0 : 0 < s.size := by omega
      have hch0 := chr_of hlt0
      have hv : validB s = (List.range s.size).all fun j => okAt j (chr s j) := by
        have h1 : 1 ≤ s.size := by omega
        have h2 : s.size ≤ 12 := by omega
        simp [validB, h1, h2]
      obtain ⟨r, hr⟩ : ∃ r, r = validB s := ⟨_, rfl⟩
      rw [← hr] at hv ⊢
      have HNO := Lib.hid (fun k (hk : k < s.size) (h : okAt k (chr s k) = false) => show r = false by
        rw [hv, List.all_eq_false]
        exact ⟨k, List.mem_range.2 hk, by rw [h]; simp⟩)
      have HYES := Lib.hid (fun (h : ∀ j, j < s.size → okAt j (chr s j) = true) => show r = true by
        rw [hv, List.all_eq_true]
        exact fun j hj => h j (List.mem_range.1 hj))
      have b0 := UInt8.toNat_lt s[0]
      clear hr hv
      by_cases hA : (s[0].toNat : Int) < 65 ∨ 90 < (s[0].toNat : Int)
      · have hr := HNO.out 0 hlt0 (by rw [← hch0]; unfold okAt; simp; omega)
        subst hr
        rcases hA with hA | hA
        · go_enter Tryz.func14, Tryz.ntmps14
          go_wp2
          go_ret
          exact ⟨rfl, rfl⟩
        · have hA2 : ¬ (s[0].toNat : Int) < 65 := by omega
          go_enter Tryz.func14, Tryz.ntmps14
          go_wp2
          go_ret
          exact ⟨rfl, rfl⟩
      · have hA1 : ¬ (s[0].toNat : Int) < 65 := by omega
        have hA2 : ¬ 90 < (s[0].toNat : Int) := by omega
        have HC0 := Lib.hid hch0
        clear hA hch0
        go_enter Tryz.func14, Tryz.ntmps14
        go_wp2_with fail
        go_loop [3] (fun i => ∃ k : Nat, i = .int .i64 k ∧ k ≤ s.size ∧ Hid (∀ j, j < k → okAt j (chr s j) = true)) (fun i => (s.size - RowKit.intOf i).toNat)
        case atStart => exact ⟨0, rfl, Nat.zero_le _, Lib.hid (fun j hj => absurd hj (Nat.not_lt_zero _))⟩
        case round =>
          obtain ⟨k, rfl, hk, A⟩ := hrel
          by_cases hlt : k < s.size
          · have hltz : (k : Int) < (s.size : Int) := by omega
            have hch := chr_of hlt
            have hb := UInt8.toNat_lt s[k]
            have HGO := Lib.hid (fun (h : okAt k (chr s k) = true) => show ∀ j, j < k + 1 → okAt j (chr s j) = true from fun j hj => by
              by_cases e : j = k
              · subst e; exact h
              · exact A.out j (by omega))
            by_cases hL : 65 ≤ (s[k].toNat : Int) ∧ (s[k].toNat : Int) ≤ 90
            · have HO := Lib.hid (HGO.out (by rw [← hch]; unfold okAt; simp only [decide_eq_true hL.1, decide_eq_true hL.2]; rfl))
              have l1 : ¬ (s[k].toNat : Int) < 65 := by omega
              have l2 : ¬ 90 < (s[k].toNat : Int) := by omega
              clear hch hL
              go_wp2
              go_round
              case rel => exact ⟨k + 1, by go_num, by omega, HO⟩
              case measure => simp [RowKit.intOf]; omega
            · have hk0 : k ≠ 0 := fun e => by subst e; omega
              by_cases hD : 48 ≤ (s[k].toNat : Int) ∧ (s[k].toNat : Int) ≤ 57
              · have HO := Lib.hid (HGO.out (by rw [← hch]; unfold okAt; simp only [decide_eq_true hD.1, decide_eq_true hD.2, decide_eq_true hk0, Bool.and_self, Bool.or_true]))
                have l1 : (s[k].toNat : Int) < 65 := by omega
                have l2 : ¬ (s[k].toNat : Int) < 48 := by omega
                have l3 : ¬ 57 < (s[k].toNat : Int) := by omega
                clear hch hL hD
                go_wp2
                go_round
                case rel => exact ⟨k + 1, by go_num, by omega, HO⟩
                case measure => simp [RowKit.intOf]; omega
              · have hr := HNO.out k hlt (by rw [← hch]; unfold okAt; simp only [Bool.or_eq_false_iff, Bool.and_eq_false_iff, decide_eq_false_iff_not]; omega)
                have hcase : (s[k].toNat : Int) < 48 ∨ (57 < (s[k].toNat : Int) ∧ (s[k].toNat : Int) < 65) ∨ 90 < (s[k].toNat : Int) := by omega
                have HR := Lib.hid hr
                clear hch hL hD hr
                rcases hcase with l1 | ⟨l1, l2⟩ | l1
                · have l2 : (s[k].toNat : Int) < 65 := by omega
                  go_wp2
                  go_ret
                  exact ⟨by rw [HR.out]; rfl, rfl⟩
                · have l3 : ¬ (s[k].toNat : Int) < 48 := by omega
                  go_wp2
                  go_ret
                  exact ⟨by rw [HR.out]; rfl, rfl⟩
                · have l2 : ¬ (s[k].toNat : Int) < 65 := by omega
                  have l3 : ¬ (s[k].toNat : Int) < 48 := by omega
                  have l4 : 57 < (s[k].toNat : Int) := by omega
                  go_wp2
                  go_ret
                  exact ⟨by rw [HR.out]; rfl, rfl⟩
          · have hltz : ¬ (k : Int) < (s.size : Int) := by omega
            have hr := HYES.out (fun j hj => A.out j (by omega))
            have HR := Lib.hid hr
            clear hr
            go_wp2
            go_ret
            exact ⟨by rw [HR.out]; rfl, rfl⟩

end Go.Proofs.YtgbknjpjhkegdaaGreat
