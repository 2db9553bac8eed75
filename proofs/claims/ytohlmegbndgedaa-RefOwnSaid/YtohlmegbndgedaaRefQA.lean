/-
  ref: 'added' at accounts.
-/
import Derived.Test.YtohlmegbndgedaaRefQ
import Derived.Deep.DeepCutAuto
namespace Go.Proofs.Ytohlmegbndgedaa
open Go.RowKit Go.Maps Go.WideMaps Held

theorem step_Q {D0 Dk : DH} {xs : List Acc} {k : Nat} {F : DH × Int} {DP : DH} (h : F = addL Acc.name Acc.val (aheadQ DP) behindQ 20 D0 Dk (xs.drop k)) (hk : k < xs.length) :
    (stepE (validB (xs.getD k acc0).name) ((aheadQ DP) (xs.getD k acc0)) (hasV Dk (xs.getD k acc0).name) (behindQ (xs.getD k acc0)) (Maps.size Dk) 20 = 0 → F = addL Acc.name Acc.val (aheadQ DP) behindQ 20 D0 (putV Dk (xs.getD k acc0).name (xs.getD k acc0).val) (xs.drop (k + 1))) ∧
    (stepE (validB (xs.getD k acc0).name) ((aheadQ DP) (xs.getD k acc0)) (hasV Dk (xs.getD k acc0).name) (behindQ (xs.getD k acc0)) (Maps.size Dk) 20 ≠ 0 → F = (D0, stepE (validB (xs.getD k acc0).name) ((aheadQ DP) (xs.getD k acc0)) (hasV Dk (xs.getD k acc0).name) (behindQ (xs.getD k acc0)) (Maps.size Dk) 20)) := by
  rw [drop_consD acc0 hk, addL] at h
  exact ⟨fun e => by rw [h, if_pos e], fun e => by rw [h, if_neg e]⟩

set_option maxRecDepth 100000 in
set_option maxHeartbeats 6400000 in
theorem addedQ_any (p : Option Nat) (D : DH) (v : Value) (xs : List Acc) (w : World) (rb R : Nat) (pP : Option Nat) (DP : DH) (hask : Asks w rb R pP DP) (hm : MapO w p D) (hty : Typed Acc.val D) (hv : AccsAt w v xs) (hsz : Maps.size D ≤ 1000) :
    Calls Try.prog 37 #[.map p, v, .func (.func 38) #[] #[], .int .i64 20, .func (.func 39) #[] #[.pointer (some ⟨rb, 0, none⟩)], .func (.func 40) #[] #[]] w
      (AddedPost p D (addL Acc.name Acc.val (aheadQ DP) behindQ 20 D D xs) w) := by
  obtain ⟨a, c, rfl, hlen, hwf, hcs⟩ := hv
  obtain ⟨n, hn⟩ : ∃ n, n = xs.length := ⟨_, rfl⟩
  rw [← hn] at hlen ⊢
  have HN := Lib.hid hn
  have HX := Lib.hid hcs
  have HW := Lib.hid hwf
  have HM := Lib.hid hm
  have HTY := Lib.hid hty
  have HSZ := Lib.hid hsz
  have HASK := Lib.hid hask
  clear hask
  obtain ⟨F, hF⟩ : ∃ F, F = addL Acc.name Acc.val (aheadQ DP) behindQ 20 D D xs := ⟨_, rfl⟩
  rw [← hF]
  have HF := Lib.hid hF
  clear hn hcs hwf hm hty hsz hF
  have hmm := @run_makeMap Try.prog
  have hnil := fun w => fun q => run_eql_map_nil_sl (P := Try.prog) w 58 _ _ q Try.underlying58
  go_enter Try.func37, Try.ntmps37
  have HFIRST : Hid (∃ Q : World → Ending → World → Prop, True) := Lib.hid ⟨fun _ _ _ => True, trivial⟩
  clear HFIRST
  go_wp2_with fail
  obtain ⟨q, D1, hcl, hq⟩ : ∃ (q : Option Nat) (D1 : DH), Calls Try.prog 53 #[.map p] w (fun e w' => e = .returned (.map q) ∧ MapO w' q D ∧ Below w.heap.size w w' ∧ ∀ m, q = some m → w.heap.size ≤ m) ∧ D1 = D := by
    rcases HM.out with ⟨rfl, rfl⟩ | ⟨m, rfl, h⟩
    · exact ⟨none, _, (cloneNQ w).mono fun e w' ⟨he, hw⟩ => ⟨he, .inl ⟨rfl, rfl⟩, by rw [← hw]; exact Below.refl _ _, fun m e => by cases e⟩, rfl⟩
    · exact ⟨some w.heap.size, _, (cloneMQ m D w h).mono fun e w' ⟨he, h1, h2⟩ => ⟨he, .inr ⟨_, rfl, h1⟩, h2, fun m e => by injection e with e; omega⟩, rfl⟩
  refine hcl.mono ?_
  rintro e w1 ⟨rfl, hm1, hb1, hq1⟩
  clear hcl hq
  have HM1 := Lib.hid hm1
  have HB1 := Lib.hid hb1
  have HQ1 := Lib.hid hq1
  clear hm1 hb1 hq1
  go_upto_if 25 with fail
  go_cut [14] (fun s wx => ∃ m, s = .map (some m) ∧ w.heap.size ≤ m ∧ Hid (MapH Try.prog 9 wx m D) ∧ Below w.heap.size w wx)
  case first =>
    rcases HM1.out with ⟨rfl, hD⟩ | ⟨m, rfl, h⟩
    · go_wp2
      go_meet
      exact ⟨w1.heap.size, rfl, HB1.out.size, Lib.hid (by rw [hD]; exact mapH_made w1), HB1.out.alloc HB1.out.size _⟩
    · go_wp2
      go_meet
      exact ⟨m, rfl, HQ1.out m rfl, Lib.hid h, HB1.out⟩
  case rest =>
    obtain ⟨m, rfl, hlm, HMC, hbc⟩ := hcut
    clear hmm hnil HM1 HB1 HQ1
    have hzv := zeroAccV
    have HZ := Lib.hid hzv
    clear hzv
    go_wp2_with fail
    go_loopw [29] (fun i wr => ∃ (k : Nat) (Dk : DH), i = .int .i64 k ∧ k ≤ n ∧ Hid (MapH Try.prog 9 wr m Dk ∧ Typed Acc.val Dk ∧ Maps.size Dk ≤ 1000 + k ∧ F = addL Acc.name Acc.val (aheadQ DP) behindQ 20 D Dk (xs.drop k)) ∧ Below w.heap.size w wr ∧ m < wr.heap.size) (fun i _ => (n - RowKit.intOf i).toNat)
    case atStart => exact ⟨0, D, rfl, Nat.zero_le _, Lib.hid ⟨HMC.out, HTY.out, HSZ.out, HF.out⟩, hbc, HMC.out.lt⟩
    case round =>
      obtain ⟨k, Dk, rfl, hk, HK, hbw, hml⟩ := hrel
      have HB := Lib.hid hbw
      by_cases hlt : k < n
      · have hltz : (k : Int) < (n : Int) := by omega
        have h2 : k < xs.length := by rw [← HN.out]; exact hlt
        obtain ⟨b, off, rfl, hbl, c0, c1⟩ := Acc_cells HX.out (k := k) h2
        have hwfx := HW.out (xs.getD k acc0) (by rw [show xs.getD k acc0 = xs[k] by simp [List.getD, h2]]; exact List.getElem_mem h2)
        have hst := step_Q HK.out.2.2.2 h2
        obtain ⟨x, hx⟩ : ∃ x, x = xs.getD k acc0 := ⟨_, rfl⟩
        rw [← hx] at c0 c1 hwfx hst
        have HST := Lib.hid hst
        have HWX := Lib.hid hwfx
        rw [← hbw.cell (p := ⟨b, _, none⟩) hbl] at c0 c1
        have hob := Below.alloc (Below.refl wr.heap.size wr) (Nat.le_refl _) (.cells #[.string x.name, .string x.party] 40)
        have HASK2 := Lib.hid (HASK.out.below hbw)
        have HOB := Lib.hid hob
        clear hx h2 hwfx hst hob hbw
        go_wp2_with fail
        refine (keyQ_any _ _).mono ?_
        rintro e w' ⟨rfl, rfl⟩
        go_wp2_with fail
        refine (valid_any x.name _ (by have := HWX.out.1; unfold maxLen at this; exact this)).mono ?_
        cases hvb : validB x.name with
        | false =>
          rintro e w' ⟨rfl, rfl⟩
          have HE := Lib.hid (show F = (D, 9) by have := HST.out.2 (by rw [hvb]; simp [stepE]); rw [this, hvb]; rfl)
          clear hvb
          go_wp2
          go_ret2
          exact ⟨HB.out.trans (HOB.out.mono HB.out.size), p, by rw [HE.out]; rfl, by rw [HE.out]; exact HM.out.below (HB.out.trans (HOB.out.mono HB.out.size)), .inl ⟨by rw [HE.out]; simp, rfl, by rw [HE.out]⟩⟩
        | true =>
          rintro e w' ⟨rfl, rfl⟩
          have HVB := Lib.hid hvb
          clear hvb
          go_wp2_with fail
          refine (aheadQ_any x HWX.out rb R pP DP _ (HASK2.out.below HOB.out)).mono ?_
          rintro e w3 ⟨rfl, hb3⟩
          have HB3 := Lib.hid hb3
          have x0 : w3.cell? ⟨wr.heap.size, 0, none⟩ = some (.string x.name) := by rw [hb3.cell (p := ⟨wr.heap.size, 0, none⟩) (by simp)]; simp
          have x1 : w3.cell? ⟨wr.heap.size, 1, none⟩ = some (.string x.party) := by rw [hb3.cell (p := ⟨wr.heap.size, 1, none⟩) (by simp)]; simp
          have hm3 := (HK.out.1.below HOB.out).below hb3
          have hbw3 := HB.out.trans ((HOB.out.trans (hb3.mono (by simp))).mono HB.out.size)
          have HBW3 := Lib.hid hbw3
          have hX3 : wr.heap.size < w3.heap.size := by have := hb3.size; simp at this; omega
          have hfz3 : w3.frozen? ⟨wr.heap.size, 0, none⟩ = false := (hb3.frozen (p := ⟨wr.heap.size, 0, none⟩) (by simp)).trans (by simp)
          obtain ⟨ea, hea⟩ : ∃ ea, ea = (aheadQ DP) x := ⟨_, rfl⟩
          rw [← hea]
          have HEA := Lib.hid hea
          have HM3 := Lib.hid hm3
          clear hea hbw3 hb3 hm3 c0 c1
          by_cases ha : ea = 0
          · subst ha
            cases hh : hasV Dk x.name with
            | true =>
              obtain ⟨x', hx'⟩ := HK.out.2.1 x.name acc0.val hh
              have hlk := HM3.out.lookOk Try.underlying9 Try.underlying58 (HZ.out w3) (s := x.name) HWX.out.1
              rw [show (getV Dk x.name acc0.val) = x'.val from hx', hh] at hlk
              have HE := Lib.hid (show F = (D, 8) by
                have h0 : stepE (validB x.name) ((aheadQ DP) x) (hasV Dk x.name) (behindQ x) (Maps.size Dk) 20 = 8 := by rw [HVB.out, ← HEA.out, hh]; simp [stepE]
                have := HST.out.2 (by rw [h0]; decide)
                rw [this, h0])
              clear hh hx'
              simp only [Acc.val] at hlk
              go_wp2
              go_ret2
              exact ⟨HBW3.out.alloc HBW3.out.size _, p, by rw [HE.out]; rfl, by rw [HE.out]; exact HM.out.below (HBW3.out.alloc HBW3.out.size _), .inl ⟨by rw [HE.out]; simp, rfl, by rw [HE.out]⟩⟩
            | false =>
              have hlk := HM3.out.lookOk Try.underlying9 Try.underlying58 (HZ.out w3) (s := x.name) HWX.out.1
              rw [getV_no hh, hh] at hlk
              have HH := Lib.hid hh
              clear hh
              simp only [Acc.val, acc0] at hlk
              go_wp2_with fail
              refine (behindQ_any x _).mono ?_
              rintro e w4 ⟨rfl, hb4⟩
              have hb34 := (Below.alloc (Below.refl w3.heap.size w3) (Nat.le_refl _) (.cells #[.string ByteArray.empty, .string ByteArray.empty] 40)).trans (hb4.mono (by simp))
              have y0 : w4.cell? ⟨wr.heap.size, 0, none⟩ = some (.string x.name) := (hb34.cell (p := ⟨wr.heap.size, 0, none⟩) hX3).trans x0
              have y1 : w4.cell? ⟨wr.heap.size, 1, none⟩ = some (.string x.party) := (hb34.cell (p := ⟨wr.heap.size, 1, none⟩) hX3).trans x1
              have HM4 := Lib.hid (HM3.out.below hb34)
              have HBW4 := Lib.hid (HBW3.out.trans (hb34.mono HBW3.out.size))
              have hX4 : wr.heap.size < w4.heap.size := by have := hb34.size; omega
              have hfz4 : w4.frozen? ⟨wr.heap.size, 0, none⟩ = false := (hb34.frozen (p := ⟨wr.heap.size, 0, none⟩) hX3).trans hfz3
              obtain ⟨eb, heb⟩ : ∃ eb, eb = behindQ x := ⟨_, rfl⟩
              rw [← heb]
              have HEB := Lib.hid heb
              clear heb hb34 hb4 hlk x0 x1
              by_cases hb0 : eb = 0
              · subst hb0
                have hlen4 := HM4.out.len Try.underlying58 3
                obtain ⟨z, hz⟩ : ∃ z, z = Maps.size Dk := ⟨_, rfl⟩
                rw [← hz] at hlen4
                have hz1 : (z : Int) ≤ 140737488361232 := by have := HK.out.2.2.1; rw [hz]; omega
                have HZZ := Lib.hid hz
                have HCASE := Lib.hid (show stepE (validB x.name) ((aheadQ DP) x) (hasV Dk x.name) (behindQ x) (Maps.size Dk) 20 = if 20 ≤ z then 10 else 0 by
                  rw [HVB.out, ← HEA.out, HH.out, ← HEB.out, ← hz]; simp [stepE])
                clear hz
                by_cases hzm : 20 ≤ z
                · have hzd : decide ((20 : Int) ≤ (z : Int)) = true := by simp; omega
                  have HE := Lib.hid (show F = (D, 10) by
                    have h0 := HCASE.out
                    rw [if_pos hzm] at h0
                    have := HST.out.2 (by rw [h0]; decide)
                    rw [this, h0])
                  clear hzm
                  go_wp2
                  go_ret2
                  exact ⟨HBW4.out, p, by rw [HE.out]; rfl, by rw [HE.out]; exact HM.out.below HBW4.out, .inl ⟨by rw [HE.out]; simp, rfl, by rw [HE.out]⟩⟩
                · have hzd : decide ((20 : Int) ≤ (z : Int)) = false := by simp; omega
                  have HE := Lib.hid (show F = addL Acc.name Acc.val (aheadQ DP) behindQ 20 D (putV Dk x.name x.val) (xs.drop (k + 1)) by
                    have h0 := HCASE.out
                    rw [if_neg hzm] at h0
                    exact HST.out.1 h0)
                  clear hzm
                  go_wp2_with fail
                  refine (clone_any x.name _ (by have := valid_len HVB.out; omega)).mono ?_
                  rintro e w5 ⟨rfl, hb5⟩
                  have z0 : w5.cell? ⟨wr.heap.size, 0, none⟩ = some (.string x.name) := (hb5.cell (p := ⟨wr.heap.size, 0, none⟩) hX4).trans y0
                  have z1 : w5.cell? ⟨wr.heap.size, 1, none⟩ = some (.string x.party) := (hb5.cell (p := ⟨wr.heap.size, 1, none⟩) hX4).trans y1
                  have hfz : w5.frozen? ⟨wr.heap.size, 0, none⟩ = false := by
                    rw [hb5.frozen (p := ⟨wr.heap.size, 0, none⟩) hX4]
                    exact hfz4
                  have hX5 : wr.heap.size < w5.heap.size := by have := hb5.size; omega
                  have HBW5 := Lib.hid (HBW4.out.trans (hb5.mono HBW4.out.size))
                  have hmX : m ≠ wr.heap.size := by omega
                  have hm6 : MapH Try.prog 9 ((w5.setCell ⟨wr.heap.size, 0, none⟩ (.string x.name)).drew) m Dk := ((HM4.out.below hb5).far (p := ⟨wr.heap.size, 0, none⟩) hmX _).drew
                  obtain ⟨w7, hupd, hm7, hg7⟩ := hm6.put Try.underlying9 Try.underlying58 (by have := HK.out.2.2.1; unfold maxLen; omega) (s := x.name) HWX.out.1 x.val
                  have hs6 : ((w5.setCell ⟨wr.heap.size, 0, none⟩ (.string x.name)).drew).cell? ⟨wr.heap.size, 0, none⟩ = some (.string x.name) ∧ ((w5.setCell ⟨wr.heap.size, 0, none⟩ (.string x.name)).drew).cell? ⟨wr.heap.size, 1, none⟩ = some (.string x.party) := ⟨World.cell?_setCell_same _ _ _ z0, (World.cell?_setCell_other _ _ _ _ (by simp)).trans z1⟩
                  have hs7 : w7.cell? ⟨wr.heap.size, 0, none⟩ = some (.string x.name) ∧ w7.cell? ⟨wr.heap.size, 1, none⟩ = some (.string x.party) := ⟨(World.cell?_of_block (hg7.block wr.heap.size (by simpa using hX5) (fun e => hmX (by injection e with e; exact e.symm)))).trans hs6.1, (World.cell?_of_block (hg7.block wr.heap.size (by simpa using hX5) (fun e => hmX (by injection e with e; exact e.symm)))).trans hs6.2⟩
                  have HS6 := Lib.hid hs6
                  have HS7 := Lib.hid hs7
                  have HM7 := Lib.hid hm7
                  have HB7 : Hid (Below w.heap.size w w7) := Lib.hid (Below.grown (Below.drew (Below.setCell HBW5.out (by show w.heap.size ≤ wr.heap.size; exact HB.out.size) _)) hg7 (by have := HBW5.out.size; simp; omega) (fun j hj => by injection hj with hj; omega))
                  have HZ7 := Lib.hid (show m < w7.heap.size by have := hm7.lt; exact this)
                  clear hs6 hs7 hm7 hg7 hb5 hm6 hlen4
                  simp only [Acc.val] at hupd
                  go_wp2_with fail
                  go_region_held3 (fun w' => w'.cell? ⟨wr.heap.size, 0, none⟩ = some (.string x.name) ∧ w'.cell? ⟨wr.heap.size, 1, none⟩ = some (.string x.party)) (first | exact HS6.out | exact HS7.out) (fail)
                  all_goals
                    go_wp2_with fail
                    go_roundw
                    case rel => exact ⟨k + 1, putV Dk x.name x.val, by go_num, by omega, Lib.hid ⟨HM7.out, HK.out.2.1.put HK.out.1.2 x.name x, by rw [size_putV HK.out.1.2]; have := HK.out.2.2.1; split <;> omega, HE.out⟩, HB7.out, HZ7.out⟩
                    case measure => simp [RowKit.intOf]; omega
              · have hb1 : (eb == 0) = false := by simpa using hb0
                have hb2 : (eb != 0) = true := by simpa using hb0
                have HE := Lib.hid (show F = (D, eb) by
                  have h0 : stepE (validB x.name) ((aheadQ DP) x) (hasV Dk x.name) (behindQ x) (Maps.size Dk) 20 = eb := by rw [HVB.out, ← HEA.out, HH.out, ← HEB.out]; simp [stepE, hb0]
                  have := HST.out.2 (by rw [h0]; exact hb0)
                  rw [this, h0])
                have HNE := Lib.hid hb0
                clear hb0
                go_wp2
                go_ret2
                exact ⟨HBW4.out, p, by rw [HE.out]; rfl, by rw [HE.out]; exact HM.out.below HBW4.out, .inl ⟨by rw [HE.out]; exact HNE.out, rfl, by rw [HE.out]⟩⟩
          · have ha1 : (ea == 0) = false := by simpa using ha
            have ha2 : (ea != 0) = true := by simpa using ha
            have HE := Lib.hid (show F = (D, ea) by
              have h0 : stepE (validB x.name) ((aheadQ DP) x) (hasV Dk x.name) (behindQ x) (Maps.size Dk) 20 = ea := by rw [HVB.out, ← HEA.out]; simp [stepE, ha]
              have := HST.out.2 (by rw [h0]; exact ha)
              rw [this, h0])
            have HNE := Lib.hid ha
            clear ha
            go_wp2
            go_ret2
            exact ⟨HBW3.out, p, by rw [HE.out]; rfl, by rw [HE.out]; exact HM.out.below HBW3.out, .inl ⟨by rw [HE.out]; exact HNE.out, rfl, by rw [HE.out]⟩⟩
      · have hltz : ¬ (k : Int) < (n : Int) := by omega
        have HE := Lib.hid (show F = (Dk, 0) by rw [HK.out.2.2.2, List.drop_eq_nil_of_le (by rw [← HN.out]; omega)]; rfl)
        go_wp2
        go_ret2
        exact ⟨HB.out, some m, by rw [HE.out]; rfl, by rw [HE.out]; exact .inr ⟨m, rfl, HK.out.1⟩, .inr ⟨by rw [HE.out], m, rfl, hlm⟩⟩

end Go.Proofs.Ytohlmegbndgedaa
