/-
  The walk of money.Need.
-/
import Derived.Test.YtnehamkpeeadjaaValE
namespace Go.Proofs.Ytnehamkpeeadjaa
open Go.RowKit

set_option maxRecDepth 100000 in
set_option maxHeartbeats 1600000 in
theorem need_any (v p c : Int) (w : World) (_ : (Lit.int .i64 v).wf = true) (hp : (Lit.int .i64 p).wf = true) :
    Calls Try.prog 22 #[.int .i64 v, .int .i64 p, .int .i64 c] w fun e w' => ∃ n k, NeedIs v p c n k ∧ e = .returned (.tuple #[.int .i64 n, .int .i64 k]) ∧ Below w.heap.size w w' := by
  have HW := Lib.hid (wrong_any v p c)
  cases hb : wrongB v p c with
  | true =>
    rw [hb] at HW
    have HB := Lib.hid hb
    clear hb hp
    go_enter Try.func22, Try.ntmps22
    go_wp2_with fail
    refine (HW.out _).mono ?_
    rintro e w' ⟨rfl, rfl⟩
    go_wp2
    go_ret2
    exact ⟨0, 1, .inl ⟨HB.out, rfl, rfl⟩, rfl, Below.refl _ _⟩
  | false =>
    rw [hb] at HW
    have HB := Lib.hid hb
    have hb' := hb
    simp [wrongB] at hb'
    obtain ⟨⟨⟨n1, n2⟩, n3⟩, n4⟩ := hb'
    have HP := Lib.hid hp
    have HN := Lib.hid (show 0 ≤ p ∧ 0 ≤ c ∧ c ≤ 10000 from ⟨n2, n3, n4⟩)
    have HS := Lib.hid (seek_start v p c)
    obtain ⟨m, hm⟩ : ∃ m, m = mostF p := ⟨_, rfl⟩
    have hm0 : 0 ≤ m := by rw [hm]; exact (most_bd p).1
    have hm1 : m ≤ 1152921504606846976 := by rw [hm]; exact (most_bd p).2
    rw [← hm] at HS
    have HM := Lib.hid hm
    have hcase : (0 < p ∧ (1152921504606846976 : Int).tdiv p = m) ∨ (¬ 0 < p ∧ m = 1152921504606846976) := by
      rw [hm]; unfold mostF
      by_cases h : 0 < p
      · left; rw [if_pos h]; exact ⟨h, Int.tdiv_eq_ediv_of_nonneg (by omega)⟩
      · right; rw [if_neg h]; exact ⟨h, rfl⟩
    clear hb hp hm n1 n2 n3 n4
    rcases hcase with ⟨hpos, hq⟩ | ⟨hpos, rfl⟩
    · have HQ := Lib.hid (show (1152921504606846976 : Int) / p = m by rw [← hq]; exact (Int.tdiv_eq_ediv_of_nonneg (by omega)).symm)
      have HM1 := Lib.hid (show wrap64 (m + 1) = m + 1 by rw [IntWalk.wrap64_in _ (by omega)])
      clear hq
      go_enter Try.func22, Try.ntmps22
      go_wp2_with fail
      refine (HW.out _).mono ?_
      rintro e w' ⟨rfl, rfl⟩
      go_wp2_with fail
      simp only [HQ.out, HM1.out]
      go_loopw [9, 10] (fun s t wr => ∃ lo hi : Int, s = .int .i64 lo ∧ t = .int .i64 hi ∧ Hid (Seek v p c lo hi) ∧ 0 ≤ lo ∧ lo ≤ hi ∧ hi ≤ m + 1 ∧ Below w.heap.size w wr) (fun s t _ => (RowKit.intOf t - RowKit.intOf s).toNat)
      case atStart => exact ⟨0, m + 1, rfl, rfl, HS, by omega, by omega, by omega, Below.refl _ _⟩
      case round =>
        obtain ⟨lo, hi, rfl, rfl, HK, b1, b2, b3, hbw⟩ := hrel
        by_cases hlt : lo < hi
        · have hwf : (Lit.int .i64 (lo + (hi - lo) / 2)).wf = true := by
            have := wrap64_wf (lo + (hi - lo) / 2)
            rw [IntWalk.wrap64_in _ (by omega)] at this
            exact this
          have HWO := Lib.hid (fun W => worth_any (lo + (hi - lo) / 2) p c W hwf HP.out)
          have HD := Lib.hid (show lo ≤ lo + (hi - lo) / 2 ∧ lo + (hi - lo) / 2 < hi by omega)
          have HSL := Lib.hid (fun hw => seek_low HN.out.1 HN.out.2.1 HN.out.2.2 HK.out HD.out.1 HD.out.2 hw)
          have HSH := Lib.hid (fun hw => seek_high HK.out HD.out.1 HD.out.2 hw)
          clear hwf
          obtain ⟨r, hr⟩ : ∃ r, r = worthF (lo + (hi - lo) / 2) p c := ⟨_, rfl⟩
          rw [← hr] at HWO HSL HSH
          clear hr
          go_wp2_with fail
          refine (HWO.out _).mono ?_
          rintro e w2 ⟨rfl, hb2⟩
          have HB2 := Lib.hid (hbw.trans (hb2.mono hbw.size))
          clear hb2 hbw
          by_cases hw : v ≤ r.1
          · have HH := Lib.hid (HSH.out hw)
            go_wp2
            go_roundw
            case rel => exact ⟨lo, lo + (hi - lo) / 2, rfl, rfl, HH, b1, HD.out.1, by have := HD.out.2; omega, HB2.out⟩
            case measure => have := HD.out; simp [RowKit.intOf]; omega
          · have HH := Lib.hid (HSL.out (by omega))
            have hd : decide (v ≤ r.1) = false := decide_eq_false hw
            go_wp2
            go_roundw
            case rel => exact ⟨lo + (hi - lo) / 2 + 1, hi, by go_num, rfl, HH, by omega, by have := HD.out.2; omega, b3, HB2.out⟩
            case measure => have := HD.out; simp [RowKit.intOf]; omega
        · have hmm := HM.out
          have hk := HK.out
          rw [Seek, ← hmm] at hk
          have ehi : hi = lo := by omega
          rw [ehi] at hk
          have HF := Lib.hid (show m < lo → NeedIs v p c 0 32 by
            intro h
            refine .inr (.inr ⟨HB.out, rfl, rfl, fun k h1 h2 => hk.2.2.2.1 k h1 ?_⟩)
            rw [← hmm] at h2
            omega)
          have HG := Lib.hid (show lo ≤ m → NeedIs v p c lo 0 by
            intro h
            refine .inr (.inl ⟨HB.out, rfl, b1, ?_, hk.2.2.2.2 h, hk.2.2.2.1⟩)
            rw [← hmm]
            exact h)
          clear hmm hk ehi
          by_cases hl : lo ≤ m
          · go_wp2
            go_ret2
            exact ⟨lo, 0, HG.out hl, rfl, hbw⟩
          · have hl2 : m < lo := by omega
            go_wp2
            go_ret2
            exact ⟨0, 32, HF.out hl2, rfl, hbw⟩
    · replace HS : Hid (Seek v p c 0 1152921504606846977) := HS
      have hpos' : p ≤ 0 := by omega
      go_enter Try.func22, Try.ntmps22
      go_wp2_with fail
      refine (HW.out _).mono ?_
      rintro e w' ⟨rfl, rfl⟩
      go_wp2_with fail
      go_loopw [9, 10] (fun s t wr => ∃ lo hi : Int, s = .int .i64 lo ∧ t = .int .i64 hi ∧ Hid (Seek v p c lo hi) ∧ 0 ≤ lo ∧ lo ≤ hi ∧ hi ≤ 1152921504606846977 ∧ Below w.heap.size w wr) (fun s t _ => (RowKit.intOf t - RowKit.intOf s).toNat)
      case atStart => exact ⟨0, 1152921504606846977, rfl, rfl, HS, by omega, by omega, by omega, Below.refl _ _⟩
      case round =>
        obtain ⟨lo, hi, rfl, rfl, HK, b1, b2, b3, hbw⟩ := hrel
        by_cases hlt : lo < hi
        · have hwf : (Lit.int .i64 (lo + (hi - lo) / 2)).wf = true := by
            have := wrap64_wf (lo + (hi - lo) / 2)
            rw [IntWalk.wrap64_in _ (by omega)] at this
            exact this
          have HWO := Lib.hid (fun W => worth_any (lo + (hi - lo) / 2) p c W hwf HP.out)
          have HD := Lib.hid (show lo ≤ lo + (hi - lo) / 2 ∧ lo + (hi - lo) / 2 < hi by omega)
          have HSL := Lib.hid (fun hw => seek_low HN.out.1 HN.out.2.1 HN.out.2.2 HK.out HD.out.1 HD.out.2 hw)
          have HSH := Lib.hid (fun hw => seek_high HK.out HD.out.1 HD.out.2 hw)
          clear hwf
          obtain ⟨r, hr⟩ : ∃ r, r = worthF (lo + (hi - lo) / 2) p c := ⟨_, rfl⟩
          rw [← hr] at HWO HSL HSH
          clear hr
          go_wp2_with fail
          refine (HWO.out _).mono ?_
          rintro e w2 ⟨rfl, hb2⟩
          have HB2 := Lib.hid (hbw.trans (hb2.mono hbw.size))
          clear hb2 hbw
          by_cases hw : v ≤ r.1
          · have HH := Lib.hid (HSH.out hw)
            go_wp2
            go_roundw
            case rel => exact ⟨lo, lo + (hi - lo) / 2, rfl, rfl, HH, b1, HD.out.1, by have := HD.out.2; omega, HB2.out⟩
            case measure => have := HD.out; simp [RowKit.intOf]; omega
          · have HH := Lib.hid (HSL.out (by omega))
            have hd : decide (v ≤ r.1) = false := decide_eq_false hw
            go_wp2
            go_roundw
            case rel => exact ⟨lo + (hi - lo) / 2 + 1, hi, by go_num, rfl, HH, by omega, by have := HD.out.2; omega, b3, HB2.out⟩
            case measure => have := HD.out; simp [RowKit.intOf]; omega
        · have hmm := HM.out
          have hk := HK.out
          rw [Seek, ← hmm] at hk
          have ehi : hi = lo := by omega
          rw [ehi] at hk
          have HF := Lib.hid (show (1152921504606846976 : Int) < lo → NeedIs v p c 0 32 by
            intro h
            refine .inr (.inr ⟨HB.out, rfl, rfl, fun k h1 h2 => hk.2.2.2.1 k h1 ?_⟩)
            rw [← hmm] at h2
            omega)
          have HG := Lib.hid (show lo ≤ (1152921504606846976 : Int) → NeedIs v p c lo 0 by
            intro h
            refine .inr (.inl ⟨HB.out, rfl, b1, ?_, hk.2.2.2.2 h, hk.2.2.2.1⟩)
            rw [← hmm]
            exact h)
          clear hmm hk ehi
          by_cases hl : lo ≤ (1152921504606846976 : Int)
          · go_wp2
            go_ret2
            exact ⟨lo, 0, HG.out hl, rfl, hbw⟩
          · have hl2 : (1152921504606846976 : Int) < lo := by omega
            go_wp2
            go_ret2
            exact ⟨0, 32, HF.out hl2, rfl, hbw⟩

end Go.Proofs.Ytnehamkpeeadjaa
