/-
  The walk of CalFull.
-/
import Derived.Test.YtfhpiedlhflndaaCalJ
import Derived.Deep.QuietTactic
import Derived.BigQuiet
namespace Go.Proofs.Ytfhpiedlhflndaa
open Go.RowKit Go.Maps CalPure

theorem newInts_len {base : Nat} {w : World} {v : Value} {xs : List Int} (h : NewInts base w v xs) : ∃ a c, v = .slice a xs.length c := by
  obtain ⟨⟨a, c, h, _⟩, _⟩ := h
  exact ⟨a, c, h⟩

theorem KeepsL.cells {w0 W : World} {b : Nat} {D : DU} {a : Option Addr} {n c k : Nat} {xs : List Int} (h : KeepsL w0 b D (.slice a n c) xs W) (hn : n = xs.length) (hk : k < n) :
    ∃ b2 off, a = some ⟨b2, off, none⟩ ∧ ∀ j, j < n → W.cell? ⟨b2, off + j, none⟩ = some (.int .i64 (xs.getD j 0)) := by
  obtain ⟨a', c', e, _, _, h4⟩ := h.2
  simp only [Value.slice.injEq] at e
  obtain ⟨rfl, _, rfl⟩ := e
  obtain ⟨b2, off, e2, _, hc⟩ := IntsAt.ne h4 (k := k) (by rw [← hn]; exact hk)
  exact ⟨b2, off, e2, fun j hj => hc j (by rw [← hn]; exact hj)⟩

set_option maxHeartbeats 3200000 in
theorem CalFull_walk (v0 : Value) (xs : List Int) (v1 : Value) (ys : List Int) (w : World) (hv : IntsAt w v0 xs) (hu : IntsAt w v1 ys) :
    Calls Try.prog 6 #[v0, v1] w fun e w' => e = .returned (.bool true) ∧ Below w.heap.size w w' := by
  obtain ⟨z, hz⟩ : ∃ z, z = closeE (.map []) xs := ⟨_, rfl⟩
  have hnew := new_any v0 xs w hv
  rw [← hz] at hnew
  have HN := Lib.hid hnew
  have HU := Lib.hid hu
  obtain ⟨a, c, rfl, hlen, _, _⟩ := hv
  obtain ⟨a1, c1, rfl, hlen1, _, hcs1⟩ := hu
  obtain ⟨n, hn⟩ : ∃ n, n = xs.length := ⟨_, rfl⟩
  obtain ⟨m, hm⟩ : ∃ m, m = ys.length := ⟨_, rfl⟩
  rw [← hn] at HN hlen ⊢
  rw [← hm] at HU hlen1 ⊢
  have HZ := Lib.hid hz
  have HL := Lib.hid hn
  have HM := Lib.hid hm
  have HX := Lib.hid hcs1
  clear hz hnew hn hm hcs1
  by_cases h0 : z = 0
  · by_cases hg : n ≤ 300 ∧ m ≤ 400
    · obtain ⟨g1, g2⟩ := hg
      subst h0
      obtain ⟨D, hD⟩ : ∃ D, D = putAll (.map []) xs := ⟨_, rfl⟩
      have hsD : Maps.size D ≤ 300 := by rw [hD]; exact size_new HZ.out.symm
      have HDD := Lib.hid hD
      clear hD HZ
      go_enter Try.func6, Try.ntmps6
      go_wp2_with fail
      refine HN.out.mono ?_
      rintro e w1 ⟨hb1, ⟨hz, _⟩ | ⟨_, b, rfl, hle, hc⟩⟩
      · exact absurd rfl hz
      have hk : Keeps w b D w1 := ⟨hb1, by rw [HDD.out]; exact hc⟩
      have HLE := Lib.hid hle
      clear hb1 hle hc
      go_wp2_with fail
      refine (holidays_any b D _ hk.2 hsD).mono ?_
      rintro e w2 ⟨vw, rfl, hi, hb2⟩
      obtain ⟨aw, cw, rfl⟩ := newInts_len hi
      replace hk := hk.step hb2
      obtain ⟨lw, hlw⟩ : ∃ lw, lw = (sortedD D).length := ⟨_, rfl⟩
      rw [← hlw]
      have hbw : lw ≤ 300 := by rw [hlw, sortedD_length]; exact hsD
      have HLW := Lib.hid hlw
      clear hi hb2 hlw
      have hcl := close_any b D _ ys _ hk.2 (HU.out.below hk.1) hsD
      have hs2 := size_close D ys hsD
      have hty := calAt_tidy hk.2
      obtain ⟨z2, hz2⟩ : ∃ z2, z2 = closeE D ys := ⟨_, rfl⟩
      obtain ⟨D2, hD2⟩ : ∃ D2, D2 = closeD D ys := ⟨_, rfl⟩
      rw [← hD2] at hcl hs2
      rw [← hz2] at hcl
      have hz3 := closeE_cases D ys
      rw [← hz2] at hz3
      have HCL := Lib.hid hcl
      have HTY := Lib.hid hty
      have HZ2 := Lib.hid hz2
      have HD2 := Lib.hid hD2
      have HZ3 := Lib.hid hz3
      clear hcl hty hz2 hD2 hz3
      go_wp2_with fail
      refine HCL.out.mono ?_
      rintro e w3 ⟨rfl, hg3, hc3⟩
      replace hk := hk.closed HLE.out hg3 hc3
      clear HCL hg3 hc3
      go_wp2_with fail
      refine (holidays_any b D2 _ hk.2 hs2).mono ?_
      rintro e w4 ⟨vh, rfl, hi, hb4⟩
      obtain ⟨ah, ch, rfl⟩ := newInts_len hi
      have hkl : KeepsL w b D2 _ (sortedD D2) w4 := ⟨hk.step hb4, hi.1⟩
      obtain ⟨lh, hlh⟩ : ∃ lh, lh = (sortedD D2).length := ⟨_, rfl⟩
      rw [← hlh] at hkl ⊢
      have hbh : lh ≤ 300 := by rw [hlh, sortedD_length]; exact hs2
      have HLH := Lib.hid hlh
      clear hi hb4 hk hlh hs2 hsD
      by_cases hzz : z2 = 0
      · subst hzz
        have hDp : D2 = putAll D ys := by rw [HD2.out]; unfold closeD; rw [if_pos HZ2.out.symm]
        have hwh : lw ≤ lh := by rw [HLW.out, HLH.out, sortedD_length, sortedD_length, hDp]; exact size_putAll _ _ HTY.out.1
        have hno : ∀ y ∈ ys, isB (holD D2) y = false := fun y hy => by
          have : holD D2 y = true := by rw [hDp, hol_putAll _ _ HTY.out.1]; simp [hy]
          simp [isB, this]
        have hty2 := (calAt_tidy hkl.1.2).2
        have hri : ∀ j, j + 1 < lh → (sortedD D2).getD j 0 < (sortedD D2).getD (j + 1) 0 := fun j hj => rises hty2 j (by rw [HLH.out] at hj; exact hj)
        have HNO := Lib.hid hno
        have HRI := Lib.hid hri
        clear hDp hno hty2 hri HZ3 HZ2 HD2 HTY
        go_wp2_with fail
        go_loopw [10] (fun s wr => ∃ k : Nat, s = .int .i64 k ∧ k ≤ m ∧ KeepsL w b D2 (.slice ah lh ch) (sortedD D2) wr) (fun s _ => (m - RowKit.intOf s).toNat)
        case atStart => exact ⟨0, rfl, Nat.zero_le _, hkl⟩
        case round =>
          obtain ⟨k, rfl, hk, hkl⟩ := hrel
          by_cases hlt : k < m
          · have hltz : (k : Int) < (m : Int) := by omega
            obtain ⟨b2, off, rfl, hb2, hc2⟩ := IntsAt.ne HX.out (k := k) (by rw [← HM.out]; exact hlt)
            have hcell := hc2 k (by rw [← HM.out]; exact hlt)
            rw [← hkl.1.1.cell (p := ⟨b2, off + k, none⟩) hb2] at hcell
            clear hc2 hb2
            obtain ⟨y, hy⟩ : ∃ y, y = ys.getD k 0 := ⟨_, rfl⟩
            rw [← hy] at hcell
            have hn := HNO.out y (by rw [hy, getD_lt (by rw [← HM.out]; exact hlt)]; exact List.getElem_mem _)
            clear hy
            go_wp2_with (go_at_call 10; refine (is_any _ _ _ _ hkl.1.2).mono ?_; rintro e w5 ⟨rfl, hb5⟩; replace hkl := hkl.step hb5; clear hb5)
            go_roundw
            case rel => exact ⟨k + 1, by go_num, by omega, hkl⟩
            case measure => simp [RowKit.intOf]; omega
          · have hltz : ¬ (k : Int) < (m : Int) := by omega
            go_wp2_with fail
            go_loopw [11] (fun s wr => ∃ k : Nat, s = .int .i64 k ∧ 1 ≤ k ∧ (k ≤ lh ∨ k = 1) ∧ KeepsL w b D2 (.slice ah lh ch) (sortedD D2) wr) (fun s _ => (lh - RowKit.intOf s).toNat)
            case atStart => exact ⟨1, rfl, by omega, .inr rfl, hkl⟩
            case round =>
              clear hkl
              obtain ⟨j, rfl, hj, hj2, hkl⟩ := hrel
              by_cases hlt2 : j < lh
              · have hltz2 : (j : Int) < (lh : Int) := by omega
                obtain ⟨i, rfl⟩ : ∃ i, j = i + 1 := ⟨j - 1, by omega⟩
                obtain ⟨b2, off, rfl, hc2⟩ := hkl.cells HLH.out hlt2
                have cell0 := hc2 i (by omega)
                have cell1 := hc2 (i + 1) (by omega)
                have hlt3 := HRI.out i hlt2
                obtain ⟨p, hp⟩ : ∃ p, p = (sortedD D2).getD i 0 := ⟨_, rfl⟩
                obtain ⟨q, hq⟩ : ∃ q, q = (sortedD D2).getD (i + 1) 0 := ⟨_, rfl⟩
                rw [← hp] at cell0 hlt3
                rw [← hq] at cell1 hlt3
                have hle : decide (q ≤ p) = false := by simp; omega
                clear hc2 hp hq
                go_wp2_with fail
                go_quiet (fail)
                go_wp2
                go_roundw
                case rel => exact ⟨i + 1 + 1, by go_num, by omega, by omega, hkl.step (below_drewN (Below.refl _ _) _)⟩
                case measure => simp [RowKit.intOf]; omega
              · have hltz2 : ¬ (j : Int) < (lh : Int) := by omega
                go_wp2_with fail
                refine (alive_any _).mono ?_
                rintro e w8 ⟨rfl, hb8⟩
                replace hkl := hkl.step hb8
                clear hb8
                go_wp2_with fail
                go_ret
                exact ⟨rfl, hkl.1.1⟩
      · have hDp : D2 = D := by rw [HD2.out]; unfold closeD; rw [if_neg (by rw [← HZ2.out]; exact hzz)]
        have hlen : lh = lw := by rw [HLH.out, HLW.out, hDp]
        clear hDp
        subst hlen
        have hz4 : z2 = 17 ∨ z2 = 2 := by
          rcases HZ3.out with h | h
          · exact absurd h hzz
          · exact h
        clear hzz HZ3 HZ2
        rcases hz4 with rfl | rfl
        all_goals
          go_wp2_with fail
          refine (alive_any _).mono ?_
          rintro e w8 ⟨rfl, hb8⟩
          replace hkl := hkl.step hb8
          clear hb8
          go_wp2_with fail
          go_ret
          exact ⟨rfl, hkl.1.1⟩
    · subst h0
      go_enter Try.func6, Try.ntmps6
      go_wp2_with fail
      refine HN.out.mono ?_
      rintro e w1 ⟨hb1, ⟨hz, _⟩ | ⟨_, b, rfl, hle, hc⟩⟩
      · exact absurd rfl hz
      clear hle hc
      have H1 := Lib.hid hb1
      have Hg := Lib.hid hg
      clear hb1 hg
      go_wp2_with (go_at_call 8; refine (alive_any _).mono ?_; rintro e w2 ⟨rfl, hb2⟩)
      all_goals first
        | (go_ret; exact ⟨rfl, H1.out.trans (hb2.mono H1.out.size)⟩)
        | (exfalso; have := Hg.out; omega)
  · have h1 : (z != 0) = true := by simpa using h0
    go_enter Try.func6, Try.ntmps6
    go_wp2_with fail
    refine HN.out.mono ?_
    rintro e w1 ⟨hb1, ⟨_, rfl⟩ | ⟨hz, _⟩⟩
    · have H1 := Lib.hid hb1
      clear h0 hb1
      go_wp2_with (go_at_call 8; refine (alive_any _).mono ?_; rintro e w2 ⟨rfl, hb2⟩)
      go_ret
      exact ⟨rfl, H1.out.trans (hb2.mono H1.out.size)⟩
    · exact absurd hz h0

end Go.Proofs.Ytfhpiedlhflndaa
