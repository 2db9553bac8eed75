/-
  ref: the walk of RefAll.
-/
import Derived.Test.YtohlmegbndgedaaRefI
namespace Go.Proofs.Ytohlmegbndgedaa
open Go.RowKit Go.Maps Go.WideMaps Held

/-- A map of k names, each short. -/
def Good (D : DH) (k : Nat) : Prop := TextKeys D ∧ (∀ s, hasV D s = true → s.size ≤ maxLen) ∧ Maps.size D = k
theorem good_none : Good (.map []) 0 := ⟨textKeys_none, fun s h => (by rw [hasV_none] at h; cases h), rfl⟩
theorem Good.put {D : DH} {k : Nat} (h : Good D k) {nm : ByteArray} (v : Value) (hv : validB nm = true) (hh : hasV D nm = false) : Good (putV D nm v) (k + 1) := by
  refine ⟨h.1.put _ _, fun s hs => ?_, by rw [size_putV h.1, hh, h.2.2]; rfl⟩
  rcases (hasV_put h.1.isMap _ _ _).1 hs with rfl | hs
  · have := valid_len hv; unfold maxLen; omega
  · exact h.2.1 s hs
theorem step_zero2 {valid has : Bool} {ah bh : Int} {sz most : Nat} (h : stepE valid ah has bh sz most = 0) : valid = true ∧ has = false := ⟨(step_zero h).1, (step_zero h).2.2.1⟩
theorem rowsS_len {D : DH} {k : Nat} (h : Good D k) : (rowsS D).length = k := by rw [rowsS, List.length_map, keysV_length, h.2.2]

theorem addL_one (D : DH) (x : Ast) : addL Ast.name Ast.val aheadS behindS 12 D D [x] = if stepE (validB x.name) (aheadS x) (hasV D x.name) (behindS x) (Maps.size D) 12 = 0 then (putV D x.name x.val, 0) else (D, stepE (validB x.name) (aheadS x) (hasV D x.name) (behindS x) (Maps.size D) 12) := by
  rw [addL]; split <;> rfl

/-- How far the one-by-one is. -/
def OneBy (F : DH × Int) (l : List Ast) (k : Nat) (f : Int) (D : DH) : Prop :=
  (f = 0 ∧ Good D k ∧ F = addL Ast.name Ast.val aheadS behindS 12 (.map []) D (l.drop k)) ∨ (f ≠ 0 ∧ F = (.map [], f))

set_option maxRecDepth 100000 in
set_option maxHeartbeats 6400000 in
theorem RefAll_walk (v : Value) (l : List Ast) (w : World) (hv : AstsAt w v l) :
    Calls Try.prog 3 #[v] w fun e w' => e = .returned (.bool true) ∧ Below w.heap.size w w' := by
  have HV := Lib.hid hv
  obtain ⟨a, c, rfl, hlen, hwf, hcs⟩ := hv
  obtain ⟨n, hn⟩ : ∃ n, n = l.length := ⟨_, rfl⟩
  rw [← hn] at hlen HV ⊢
  have HN := Lib.hid hn
  have HX := Lib.hid hcs
  have HW := Lib.hid hwf
  obtain ⟨F, hF⟩ : ∃ F, F = addL Ast.name Ast.val aheadS behindS 12 (.map []) (.map []) l := ⟨_, rfl⟩
  have HF := Lib.hid hF
  clear hn hcs hwf hF
  by_cases hbig : 20 < n
  · have hbz : (20 : Int) < (n : Int) := by omega
    go_enter Try.func3, Try.ntmps3
    go_wp2_with fail
    refine (alive_any _).mono ?_
    rintro e w1 ⟨rfl, hb1⟩
    go_wp2
    go_ret
    exact ⟨rfl, hb1⟩
  · have hbz : ¬ (20 : Int) < (n : Int) := by omega
    go_enter Try.func3, Try.ntmps3
    go_wp2_with fail
    refine (new_any _).mono ?_
    rintro e w1 ⟨R, g, rfl, hr⟩
    have HR1 := Lib.hid hr
    clear hr
    go_wp2_with fail
    refine (new_any _).mono ?_
    rintro e w2 ⟨X, gx, rfl, hx⟩
    have HR2 := Lib.hid (HR1.out.step hx.bel)
    have HX2 := Lib.hid (hx.weaken HR1.out.bel)
    have hne : R ≠ X := by have := HR1.out.lt; have := hx.lR; omega
    have HNE := Lib.hid hne
    clear hx hne
    go_wp2_with fail
    refine (addS_in3 _ l HR2.out (by rw [HN.out] at HV ⊢; exact HV.out.below HR2.out.bel)).mono ?_
    rintro e w3 ⟨rfl, hr, ht⟩
    simp only at hr ⊢
    rw [show dat0.s = .map [] from rfl, ← HF.out] at hr ⊢
    have HR3 := Lib.hid hr
    have HX3 := Lib.hid (HX2.out.other HR2.out HNE.out HR2.out.lR ht)
    clear hr ht
    go_wp2_with fail
    go_loopw [6, 7] (fun f i wr => ∃ (k : Nat) (fe : Int) (D : DH), f = .int .i64 fe ∧ i = .int .i64 k ∧ k ≤ n ∧ Hid (OneBy F l k fe D ∧ RefIn w wr R g ⟨dat0.p, dat0.a, F.1⟩ ∧ RefIn w wr X gx ⟨dat0.p, dat0.a, D⟩)) (fun _ i _ => (n - RowKit.intOf i).toNat)
    case atStart => exact ⟨0, 0, .map [], rfl, rfl, Nat.zero_le _, Lib.hid ⟨.inl ⟨rfl, good_none, HF.out⟩, HR3.out, HX3.out⟩⟩
    case round =>
      obtain ⟨k, fe, D, rfl, rfl, hk, HK⟩ := hrel
      by_cases hgo : k < n ∧ fe = 0
      · obtain ⟨hlt, rfl⟩ := hgo
        have hltz : (k : Int) < (n : Int) := by omega
        have h2 : k < l.length := by rw [← HN.out]; exact hlt
        obtain ⟨hgood, hFk⟩ : Good D k ∧ F = addL Ast.name Ast.val aheadS behindS 12 (.map []) D (l.drop k) := by
          rcases HK.out.1 with ⟨_, h1, h2⟩ | ⟨h, _⟩
          · exact ⟨h1, h2⟩
          · exact absurd rfl h
        obtain ⟨b, off, rfl, hbl, c0, c1, c2, c3, c4, c5, c6, c7⟩ := Ast_cells HX.out (k := k) h2
        have hwfx := HW.out (l.getD k ast0) (by rw [show l.getD k ast0 = l[k] by simp [List.getD, h2]]; exact List.getElem_mem h2)
        have hst := step_S hFk h2
        obtain ⟨x, hx⟩ : ∃ x, x = l.getD k ast0 := ⟨_, rfl⟩
        rw [← hx] at c0 c1 c2 c3 c4 c5 c6 c7 hwfx hst
        have hbw := HK.out.2.1.bel
        rw [← hbw.cell (p := ⟨b, _, none⟩) hbl] at c0 c1 c2 c3 c4 c5 c6 c7
        have HST := Lib.hid hst
        have HWX := Lib.hid hwfx
        have HGD := Lib.hid hgood
        clear hx h2 hwfx hst hbw hgood hFk
        go_wp2_with fail
        refine (addS_in3 _ [x] (HK.out.2.2.step ((Below.refl _ _).alloc (Nat.le_refl _) _)) (ast1 _ _ _ rfl x HWX.out)).mono ?_
        rintro e w5 ⟨rfl, hxr, ht⟩
        simp only at hxr ⊢
        rw [addL_one] at hxr ⊢
        have HRR := Lib.hid ((HK.out.2.1.step ((Below.refl _ _).alloc (Nat.le_refl _) _)).other (HK.out.2.2.step ((Below.refl _ _).alloc (Nat.le_refl _) _)) HNE.out.symm HK.out.2.2.lR ht)
        clear ht
        obtain ⟨E, hE⟩ : ∃ E, E = stepE (validB x.name) (aheadS x) (hasV D x.name) (behindS x) (Maps.size D) 12 := ⟨_, rfl⟩
        rw [← hE] at hxr HST ⊢
        by_cases hE0 : E = 0
        · rw [if_pos hE0] at hxr ⊢
          have hz := step_zero2 (hE.symm.trans hE0)
          have HNEXT := Lib.hid (show OneBy F l (k + 1) 0 (putV D x.name x.val) ∧ RefIn w w5 R g ⟨dat0.p, dat0.a, F.1⟩ ∧ RefIn w w5 X gx ⟨dat0.p, dat0.a, putV D x.name x.val⟩ from ⟨.inl ⟨rfl, HGD.out.put _ hz.1 hz.2, HST.out.1 hE0⟩, HRR.out, hxr⟩)
          clear hxr hz hE hE0
          go_wp2
          go_roundw
          case rel => exact ⟨k + 1, 0, _, rfl, by go_num, by omega, HNEXT⟩
          case measure => simp [RowKit.intOf]; omega
        · rw [if_neg hE0] at hxr ⊢
          have HNEXT := Lib.hid (show OneBy F l (k + 1) E D ∧ RefIn w w5 R g ⟨dat0.p, dat0.a, F.1⟩ ∧ RefIn w w5 X gx ⟨dat0.p, dat0.a, D⟩ from ⟨.inr ⟨hE0, HST.out.2 hE0⟩, HRR.out, hxr⟩)
          clear hxr hE hE0
          go_wp2
          go_roundw
          case rel => exact ⟨k + 1, E, _, rfl, by go_num, by omega, HNEXT⟩
          case measure => simp [RowKit.intOf]; omega
      · by_cases hf0 : fe = 0
        · subst hf0
          have hltz : ¬ (k : Int) < (n : Int) := by omega
          obtain rfl : k = n := by omega
          obtain ⟨hgood, hFk⟩ : Good D k ∧ F = (D, 0) := by
            rcases HK.out.1 with ⟨_, h1, h2⟩ | ⟨h, _⟩
            · exact ⟨h1, by rw [h2, List.drop_eq_nil_of_le (by rw [← HN.out]; exact Nat.le_refl _)]; rfl⟩
            · exact absurd rfl h
          rw [hFk] at HK ⊢
          have HGD := Lib.hid hgood
          have hkn : k ≤ 20 := by omega
          clear hgood hFk HR3 HX3 HF hgo
          simp only at HK ⊢
          go_wp2_with fail
          refine (alive_any _).mono ?_
          rintro e w6 ⟨rfl, hb6⟩
          have HR6 := Lib.hid (HK.out.2.1.step hb6)
          have HX6 := Lib.hid (HK.out.2.2.step hb6)
          clear hb6
          go_wp2_with fail
          refine (allS_in HR6.out HGD.out.2.1).mono ?_
          rintro e w7 ⟨v7, rfl, ho7, hb7⟩
          obtain ⟨a7, c7, rfl, hrow7⟩ := ho7.row
          rw [rowsS_len HGD.out]
          have HR7 := Lib.hid (HR6.out.step hb7)
          have HX7 := Lib.hid (HX6.out.step hb7)
          have HW7 := Lib.hid hrow7
          clear hb7 ho7 hrow7
          go_wp2_with fail
          refine (allS_in HX7.out HGD.out.2.1).mono ?_
          rintro e w8 ⟨v8, rfl, ho8, hb8⟩
          obtain ⟨a8, c8, rfl, hrow8⟩ := ho8.row
          rw [rowsS_len HGD.out]
          have HR8 := Lib.hid (HR7.out.step hb8)
          have HSM := Lib.hid (sameS_any a7 a8 c7 c8 (rowsS D) w8 (HW7.out.below hb8) hrow8 (by rw [rowsS_len HGD.out]; omega))
          rw [rowsS_len HGD.out] at HSM
          clear hb8 ho8 hrow8
          go_wp2_with fail
          refine HSM.out.mono ?_
          rintro e w9 ⟨rfl, hb9⟩
          have HR9 := Lib.hid (HR8.out.step hb9)
          clear hb9
          go_wp2_with fail
          refine (allS_in HR9.out HGD.out.2.1).mono ?_
          rintro e w10 ⟨v10, rfl, ho10, hb10⟩
          obtain ⟨a10, c10, rfl, hrow10⟩ := ho10.row
          rw [rowsS_len HGD.out]
          have HR10 := Lib.hid (HR9.out.step hb10).bel
          clear hb10 ho10 hrow10
          go_wp2
          go_ret
          exact ⟨rfl, HR10.out⟩
        · have hFk : F = (.map [], fe) := by
            rcases HK.out.1 with ⟨h, _⟩ | ⟨_, h⟩
            · exact absurd h hf0
            · exact h
          rw [hFk] at HK ⊢
          have hfz : (fe == 0) = false := by simpa using hf0
          have hkn : k ≤ 20 := by omega
          clear hFk HR3 HX3 HF hgo
          simp only at HK ⊢
          by_cases hlt : k < n
          all_goals
            have hltz : (k : Int) < (n : Int) ∨ ¬ (k : Int) < (n : Int) := by omega
            clear hltz
          · have hltz : (k : Int) < (n : Int) := by omega
            go_wp2_with fail
            refine (alive_any _).mono ?_
            rintro e w6 ⟨rfl, hb6⟩
            have HR6 := Lib.hid (HK.out.2.1.step hb6)
            clear hb6
            go_wp2_with fail
            refine (allS_in HR6.out good_none.2.1).mono ?_
            rintro e w7 ⟨v7, rfl, ho7, hb7⟩
            obtain ⟨a7, c7, rfl, hrow7⟩ := ho7.row
            rw [show (rowsS (Dat.s ⟨dat0.p, dat0.a, .map []⟩)).length = 0 from rowsS_len good_none]
            have HR7 := Lib.hid (HR6.out.step hb7).bel
            clear hb7 ho7 hrow7
            go_wp2
            go_ret
            exact ⟨rfl, HR7.out⟩
          · have hltz : ¬ (k : Int) < (n : Int) := by omega
            go_wp2_with fail
            refine (alive_any _).mono ?_
            rintro e w6 ⟨rfl, hb6⟩
            have HR6 := Lib.hid (HK.out.2.1.step hb6)
            clear hb6
            go_wp2_with fail
            refine (allS_in HR6.out good_none.2.1).mono ?_
            rintro e w7 ⟨v7, rfl, ho7, hb7⟩
            obtain ⟨a7, c7, rfl, hrow7⟩ := ho7.row
            rw [show (rowsS (Dat.s ⟨dat0.p, dat0.a, .map []⟩)).length = 0 from rowsS_len good_none]
            have HR7 := Lib.hid (HR6.out.step hb7).bel
            clear hb7 ho7 hrow7
            go_wp2
            go_ret
            exact ⟨rfl, HR7.out⟩

end Go.Proofs.Ytohlmegbndgedaa
