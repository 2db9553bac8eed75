/-
  The walk of NameParts.
-/
import Derived.Test.YtakekmodimnadaaNamH
import Derived.Test.YtakekmodimnadaaNamV
import Derived.Deep.RegionHeld
import Derived.Deep.RegionWith
import Derived.Deep.DrawnRows
namespace Go.Proofs.Ytakekmodimnadaa
open Go.RowKit Go.Maps Go.WideMaps
attribute [local go_sem ↓] Go.wp_at_zero Go.wp_at_succ

def goodB (c : Int) : Bool := isL c || isD c
theorem below_drew {w w' : World} (h : Below w.drew.heap.size w.drew w') : Below w.heap.size w w' := ((Below.refl _ w).drew).trans h
theorem good_yes {c : Int} (h : (65 ≤ c ∧ c ≤ 90) ∨ (48 ≤ c ∧ c ≤ 57)) : goodB c = true := by
  unfold goodB isL isD
  simp only [Bool.or_eq_true, Bool.and_eq_true, decide_eq_true_eq]; exact h
theorem good_no {c : Int} (h : ¬ ((65 ≤ c ∧ c ≤ 90) ∨ (48 ≤ c ∧ c ≤ 57))) : goodB c = false := by
  cases hg : goodB c
  · rfl
  · exact absurd (by simpa [goodB, isL, isD] using hg) h

set_option maxHeartbeats 6400000 in
theorem NameParts_walk (s : ByteArray) (k c : Int) (w : World) (hs : s.size ≤ 140737488351232) (hk : (Lit.int .i64 k).wf = true) (hc : (Lit.int .u8 c).wf = true) :
    Calls Try.prog 4 #[.string s, .int .i64 k, .int .u8 c] w fun e w' => e = .returned (.bool true) ∧ Below w.heap.size w w' := by
  cases hb : validB s with
  | false =>
    have HB := Lib.hid hb
    clear hb
    by_cases h0 : s.size = 0
    · have h1 : ((s.size : Int) == 0) = true := by simp [h0]
      go_enter Try.func4, Try.ntmps4
      go_wp2_with (first
        | (go_at_call 13; refine (valid_any _ _ (by omega)).mono ?_; rintro e w1 ⟨rfl, rfl⟩; rw [HB.out])
        | (go_at_call 9; refine (alive_any _).mono ?_; rintro e w2 ⟨rfl, hb2⟩))
      go_ret
      exact ⟨rfl, hb2⟩
    · have h1 : ((s.size : Int) == 0) = false := beq_eq_false_iff_ne.2 (by omega)
      clear h0
      go_enter Try.func4, Try.ntmps4
      go_wp2_with fail
      refine (valid_any s _ (by omega)).mono ?_
      rw [HB.out]
      rintro e w1 ⟨rfl, rfl⟩
      go_wp2_with fail
      refine (alive_any _).mono ?_
      rintro e w2 ⟨rfl, hb2⟩
      go_wp2_with fail
      have hv : validB (s ++ ⟨#[32]⟩) = false := by
        rw [valid_eq, ByteArray.data_append, Array.toList_append]
        exact vN_bad _ (by rw [← valid_eq]; exact HB.out) (fun e => by
          have h0 : s.size = 0 := by have := congrArg List.length e; simpa using this
          rw [h0] at h1; cases h1) 32 rfl
      have hz : (s ++ ⟨#[32]⟩ : ByteArray).size ≤ 200000000000000 := by
        have e : (⟨#[32]⟩ : ByteArray).size = 1 := rfl
        rw [ByteArray.size_append, e]; omega
      refine (valid_any _ _ hz).mono ?_
      rw [hv]
      rintro e w3 ⟨rfl, rfl⟩
      go_wp2_with fail
      go_ret
      exact ⟨rfl, hb2⟩
  | true =>
    have HB := Lib.hid hb
    clear hb
    by_cases hg : 1 ≤ k ∧ k ≤ s.size
    · obtain ⟨g1, g2⟩ := id hg
      obtain ⟨n, rfl⟩ := Int.eq_ofNat_of_zero_le (show 0 ≤ k by omega)
      have e1 : decide ((n : Int) < 1) = false := by simp; omega
      have e2 : decide ((s.size : Int) < (n : Int)) = false := by simp; omega
      have e3 : decide (s.size < n) = false := by simp; omega
      have hconv : ∀ W : World, (convert 30 9 (.slice (some ⟨W.heap.size, 0, none⟩) 1 1)).run Try.prog (W.alloc (.cells #[.int .u8 c] 5)) = .ok (.string (strOfNums [c])) (W.alloc (.cells #[.int .u8 c] 5)) := fun W =>
        run_convert_bytes_arg _ 30 5 Try.underlying30 Try.underlying5 W.heap.size 0 1 1 [c] rfl (fun i hi => by obtain rfl : i = 0 := (by omega); simp) 9 Try.underlying9
      have hvn := HB.out
      rw [valid_eq] at hvn
      have hs12 : s.size ≤ 12 := by have := vN_len hvn; simpa using this
      have hle : decide ((s.size : Int) ≤ 12) = true := by simp; omega
      have hx : (s.extract 0 n).data.toList = s.data.toList.take n := by simp [ByteArray.data_extract]
      have hn0 : (strOfNums [c]).data.toList = [UInt8.ofNat c.toNat] := by simp [strOfNums]
      have hcr : 0 ≤ c ∧ c ≤ 255 := by simpa [Lit.wf, IntKind.min, IntKind.max, IntKind.bits, IntKind.signed] using hc
      have hcc : ((UInt8.ofNat c.toNat).toNat : Int) = c := by
        rw [UInt8.toNat_ofNat']; omega
      have htk : (s.data.toList.take n).length = n := by rw [List.length_take]; have : s.data.toList.length = s.size := (by simp); omega
      have hv1 : validB (s.extract 0 n) = true := by rw [valid_eq, hx]; exact vN_take hvn (by omega)
      have hv2' : validB (s.extract 0 n ++ strOfNums [c]) = (goodB c && decide (n < 12)) := by
        rw [valid_eq, ByteArray.data_append, Array.toList_append, hx, hn0, vN_snoc (vN_take hvn (by omega)), hcc, htk]; rfl
      have hv3 : validB (⟨#[49]⟩ ++ s) = false := by
        rw [valid_eq, ByteArray.data_append, Array.toList_append]; exact vN_digit _
      have hz1 : (s.extract 0 n).size ≤ 200000000000000 := by
        rw [ByteArray.size_extract]; omega
      have hz2 : (s.extract 0 n ++ strOfNums [c]).size ≤ 200000000000000 := by
        have : (strOfNums [c]).size = 1 := rfl
        rw [ByteArray.size_append, ByteArray.size_extract, this]; omega
      have hz3 : (⟨#[49]⟩ ++ s : ByteArray).size ≤ 200000000000000 := by
        have e : (⟨#[49]⟩ : ByteArray).size = 1 := rfl
        rw [ByteArray.size_append, e]; omega
      have hy1 : ((s.extract 0 n).size : Int) ≤ 8388608 := by rw [ByteArray.size_extract]; omega
      have hy2 : ((strOfNums [c]).size : Int) ≤ 8388608 := by
        have : (strOfNums [c]).size = 1 := rfl
        omega
      have hy3 : (s.size : Int) ≤ 8388608 := by omega
      have hb1 : ¬ 9223372036854775807 < min n s.size + (strOfNums [c]).size := by
        have : (strOfNums [c]).size = 1 := rfl
        omega
      have hb2 : ¬ 9223372036854775807 < 1 + s.size := by omega
      have hb3 : ¬ 9223372036854775807 < n + (strOfNums [c]).size := by
        have : (strOfNums [c]).size = 1 := rfl
        omega
      have hmin : min n s.size = n := by omega
      clear hvn hx hn0 hcr hcc htk hg hk hc
      have hcase : (65 ≤ c ∧ c ≤ 90 ∧ n < 12) ∨ (65 ≤ c ∧ c ≤ 90 ∧ 12 ≤ n) ∨ (48 ≤ c ∧ c ≤ 57 ∧ c < 65 ∧ n < 12) ∨ (48 ≤ c ∧ c ≤ 57 ∧ c < 65 ∧ 12 ≤ n) ∨ c < 48 ∨ (57 < c ∧ c < 65) ∨ 90 < c := by omega
      rcases hcase with ⟨c1, c2, c3⟩ | ⟨c1, c2, c3⟩ | ⟨c1, c2, c4, c3⟩ | ⟨c1, c2, c4, c3⟩ | c1 | ⟨c1, c2⟩ | c1
      · have c3' : decide ((n : Int) < 12) = true := by simp; omega
        have hv2 : validB (s.extract 0 n ++ strOfNums [c]) = true := by rw [hv2', good_yes (.inl ⟨c1, c2⟩)]; simpa using c3
        clear hv2'
        go_enter Try.func4, Try.ntmps4
        go_wp2_with fail
        refine (valid_any s _ (by omega)).mono ?_
        rw [HB.out]
        rintro e w1 ⟨rfl, rfl⟩
        go_wp2_with fail
        first | go_region_held (fun _ => True) (trivial) (first
            | (go_at_call 9; refine (alive_any _).mono ?_; rintro e w2 ⟨rfl, hbb⟩)
            | (go_at_call 13; refine (valid_any _ _ (by with_reducible first | exact hz1 | exact hz2 | exact hz3)).mono ?_; (first | rw [hv1] | rw [hv2] | rw [hv3]); rintro e w' ⟨rfl, rfl⟩)) | fail
        all_goals
          go_wp2
          go_ret
          exact ⟨rfl, ((below_drew hbb).alloc (below_drew hbb).size _)⟩
      · have c3' : decide ((n : Int) < 12) = false := by simp; omega
        have hv2 : validB (s.extract 0 n ++ strOfNums [c]) = false := by rw [hv2', good_yes (.inl ⟨c1, c2⟩)]; simpa using c3
        clear hv2'
        go_enter Try.func4, Try.ntmps4
        go_wp2_with fail
        refine (valid_any s _ (by omega)).mono ?_
        rw [HB.out]
        rintro e w1 ⟨rfl, rfl⟩
        go_wp2_with fail
        first | go_region_held (fun _ => True) (trivial) (first
            | (go_at_call 9; refine (alive_any _).mono ?_; rintro e w2 ⟨rfl, hbb⟩)
            | (go_at_call 13; refine (valid_any _ _ (by with_reducible first | exact hz1 | exact hz2 | exact hz3)).mono ?_; (first | rw [hv1] | rw [hv2] | rw [hv3]); rintro e w' ⟨rfl, rfl⟩)) | fail
        all_goals
          go_wp2
          go_ret
          exact ⟨rfl, ((below_drew hbb).alloc (below_drew hbb).size _)⟩
      · have c3' : decide ((n : Int) < 12) = true := by simp; omega
        have hv2 : validB (s.extract 0 n ++ strOfNums [c]) = true := by rw [hv2', good_yes (.inr ⟨c1, c2⟩)]; simpa using c3
        clear hv2'
        go_enter Try.func4, Try.ntmps4
        go_wp2_with fail
        refine (valid_any s _ (by omega)).mono ?_
        rw [HB.out]
        rintro e w1 ⟨rfl, rfl⟩
        go_wp2_with fail
        first | go_region_held (fun _ => True) (trivial) (first
            | (go_at_call 9; refine (alive_any _).mono ?_; rintro e w2 ⟨rfl, hbb⟩)
            | (go_at_call 13; refine (valid_any _ _ (by with_reducible first | exact hz1 | exact hz2 | exact hz3)).mono ?_; (first | rw [hv1] | rw [hv2] | rw [hv3]); rintro e w' ⟨rfl, rfl⟩)) | fail
        all_goals
          go_wp2
          go_ret
          exact ⟨rfl, ((below_drew hbb).alloc (below_drew hbb).size _)⟩
      · have c3' : decide ((n : Int) < 12) = false := by simp; omega
        have hv2 : validB (s.extract 0 n ++ strOfNums [c]) = false := by rw [hv2', good_yes (.inr ⟨c1, c2⟩)]; simpa using c3
        clear hv2'
        go_enter Try.func4, Try.ntmps4
        go_wp2_with fail
        refine (valid_any s _ (by omega)).mono ?_
        rw [HB.out]
        rintro e w1 ⟨rfl, rfl⟩
        go_wp2_with fail
        first | go_region_held (fun _ => True) (trivial) (first
            | (go_at_call 9; refine (alive_any _).mono ?_; rintro e w2 ⟨rfl, hbb⟩)
            | (go_at_call 13; refine (valid_any _ _ (by with_reducible first | exact hz1 | exact hz2 | exact hz3)).mono ?_; (first | rw [hv1] | rw [hv2] | rw [hv3]); rintro e w' ⟨rfl, rfl⟩)) | fail
        all_goals
          go_wp2
          go_ret
          exact ⟨rfl, ((below_drew hbb).alloc (below_drew hbb).size _)⟩
      · have d1 : c < 65 := by omega
        have hv2 : validB (s.extract 0 n ++ strOfNums [c]) = false := by rw [hv2', good_no (by omega)]; rfl
        clear hv2'
        go_enter Try.func4, Try.ntmps4
        go_wp2_with fail
        refine (valid_any s _ (by omega)).mono ?_
        rw [HB.out]
        rintro e w1 ⟨rfl, rfl⟩
        go_wp2_with fail
        first | go_region_held (fun _ => True) (trivial) (first
            | (go_at_call 9; refine (alive_any _).mono ?_; rintro e w2 ⟨rfl, hbb⟩)
            | (go_at_call 13; refine (valid_any _ _ (by with_reducible first | exact hz1 | exact hz2 | exact hz3)).mono ?_; (first | rw [hv1] | rw [hv2] | rw [hv3]); rintro e w' ⟨rfl, rfl⟩)) | fail
        all_goals
          go_wp2
          go_ret
          exact ⟨rfl, ((below_drew hbb).alloc (below_drew hbb).size _)⟩
      · have d1 : 48 ≤ c := by omega
        have hv2 : validB (s.extract 0 n ++ strOfNums [c]) = false := by rw [hv2', good_no (by omega)]; rfl
        clear hv2'
        go_enter Try.func4, Try.ntmps4
        go_wp2_with fail
        refine (valid_any s _ (by omega)).mono ?_
        rw [HB.out]
        rintro e w1 ⟨rfl, rfl⟩
        go_wp2_with fail
        first | go_region_held (fun _ => True) (trivial) (first
            | (go_at_call 9; refine (alive_any _).mono ?_; rintro e w2 ⟨rfl, hbb⟩)
            | (go_at_call 13; refine (valid_any _ _ (by with_reducible first | exact hz1 | exact hz2 | exact hz3)).mono ?_; (first | rw [hv1] | rw [hv2] | rw [hv3]); rintro e w' ⟨rfl, rfl⟩)) | fail
        all_goals
          go_wp2
          go_ret
          exact ⟨rfl, ((below_drew hbb).alloc (below_drew hbb).size _)⟩
      · have d1 : 65 ≤ c := by omega
        have d2 : 48 ≤ c := by omega
        have d3 : 57 < c := by omega
        have hv2 : validB (s.extract 0 n ++ strOfNums [c]) = false := by rw [hv2', good_no (by omega)]; rfl
        clear hv2'
        go_enter Try.func4, Try.ntmps4
        go_wp2_with fail
        refine (valid_any s _ (by omega)).mono ?_
        rw [HB.out]
        rintro e w1 ⟨rfl, rfl⟩
        go_wp2_with fail
        first | go_region_held (fun _ => True) (trivial) (first
            | (go_at_call 9; refine (alive_any _).mono ?_; rintro e w2 ⟨rfl, hbb⟩)
            | (go_at_call 13; refine (valid_any _ _ (by with_reducible first | exact hz1 | exact hz2 | exact hz3)).mono ?_; (first | rw [hv1] | rw [hv2] | rw [hv3]); rintro e w' ⟨rfl, rfl⟩)) | fail
        all_goals
          go_wp2
          go_ret
          exact ⟨rfl, ((below_drew hbb).alloc (below_drew hbb).size _)⟩
    · have HG := Lib.hid hg
      clear hg
      go_enter Try.func4, Try.ntmps4
      go_wp2_with fail
      refine (valid_any s _ (by omega)).mono ?_
      rw [HB.out]
      rintro e w1 ⟨rfl, rfl⟩
      go_wp2_with (go_at_call 9; refine (alive_any _).mono ?_; rintro e w2 ⟨rfl, hb2⟩)
      all_goals first
        | (go_ret; exact ⟨rfl, hb2⟩)
        | (exfalso; have := HG.out; omega)

end Go.Proofs.Ytakekmodimnadaa
