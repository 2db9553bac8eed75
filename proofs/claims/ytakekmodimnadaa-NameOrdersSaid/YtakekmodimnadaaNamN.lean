/-
  The walk of NameOrders, joined.
-/
import Derived.Test.YtakekmodimnadaaNamM
namespace Go.Proofs.Ytakekmodimnadaa
open Go.RowKit Go.Maps Go.WideMaps

theorem sortN_any (a : Option Addr) (c : Nat) (w : World) : Calls Try.prog 11 #[.slice a 0 c] w fun e w' => e = .returned (.slice none 0 0) ∧ Below w.heap.size w w' :=
  (sort_any (.slice a 0 c) [] w ⟨a, c, rfl, by simp, by simp, .inl rfl⟩ (by simp)).mono fun e w' ⟨v, he, hn, hb⟩ => by
    rcases hn.2 with ⟨h, _⟩ | ⟨_, _, _, _, _, _, _, _, _, h⟩
    · exact ⟨by rw [he, h], hb⟩
    · exact absurd (List.eq_nil_of_length_eq_zero (Nat.le_zero.1 (sortS_length []))) h

theorem append_none (w : World) : (Builtin.append_ #[22, 22] 22 #[.slice none 0 0, .slice none 0 0]).run Try.prog w = .ok (.slice none 0 0) w := by
  obtain ⟨i0, hi, hz0, hz1, hz2⟩ := info_parts infoS
  simp [Builtin.append_, run_underlying Try.underlying22, sizeOf, typeInfo, hi, Builtin.lenOf, Builtin.firstCells]

set_option maxRecDepth 4000 in
set_option maxHeartbeats 3200000 in
theorem NameOrders_nil (a b c : ByteArray) (x y z q : Int) (t : Bool) (v : Value) (w : World) (hv : TextsCap w v []) (ha : (a.size : Int) ≤ 3000) (hb : (b.size : Int) ≤ 3000) (hc : (c.size : Int) ≤ 3000) (hh : shortB 300 9000 [] = true)
    (hx : cmpS a b = x) (hy : cmpS b c = y) (hz : cmpS a c = z) (hq : cmpS b a = q) (ht : (a.toList == b.toList) = t)
    (hcase : Ways x y z q t) :
    Calls Try.prog 3 #[.string a, .string b, .string c, v] w fun e w' => e = .returned (.bool true) ∧ Below w.heap.size w w' := by
  have HS := Lib.hid (shorts_any v [] w hv.1)
  have HB := Lib.hid hh
  obtain ⟨⟨ad, cp, rfl, hlen, hss, hcs⟩, hcap⟩ := hv
  have hcap' := (hcap _ _ _ rfl).2
  have hsame := fun w => same_any (.slice none 0 0) (.slice none 0 0) [] [] w ⟨none, 0, rfl, by simp, by simp, .inl rfl⟩ ⟨none, 0, rfl, by simp, by simp, .inl rfl⟩
  have HSA := Lib.hid hsame
  clear hh hss hcs hcap hlen hsame
  have hcX := cmp_any a b
  have hcY := cmp_any b c
  have hcZ := cmp_any a c
  have hcW := cmp_any b a
  rw [hq] at hcW
  rw [hx] at hcX
  rw [hy] at hcY
  rw [hz] at hcZ
  clear hx hy hz
  have d1 : decide (3000 < (a.size : Int)) = false := by simp; omega
  have d2 : decide (3000 < (b.size : Int)) = false := by simp; omega
  have d3 : decide (3000 < (c.size : Int)) = false := by simp; omega
  clear ha hb hc
  have HX := Lib.hid hcX
  have HY := Lib.hid hcY
  have HZ := Lib.hid hcZ
  have HW := Lib.hid hcW
  clear hcX hcY hcZ hcW
  replace HS : Hid (Calls Try.prog 8 #[.slice ad 0 cp] w fun e w' => e = .returned (.bool (shortB 300 9000 [])) ∧ Below w.heap.size w w') := HS
  change Calls _ _ #[_, _, _, .slice ad 0 cp] _ _
  have hcp : (0 : Int) ≤ (cp : Int) := by omega
  rcases hcase with ⟨rfl, rfl, rfl, rfl, rfl⟩ | ⟨rfl, rfl, rfl, rfl, rfl⟩ | ⟨rfl, rfl, rfl, rfl, rfl⟩ | ⟨rfl, rfl, rfl, rfl, rfl⟩ | ⟨rfl, rfl, rfl, rfl, rfl⟩ | ⟨rfl, rfl, rfl, rfl, rfl⟩ | ⟨rfl, rfl, rfl, rfl, rfl⟩ | ⟨rfl, rfl, rfl, rfl, rfl⟩ | ⟨rfl, rfl, rfl, rfl, rfl⟩ | ⟨rfl, rfl, rfl, rfl, rfl⟩ | ⟨rfl, rfl, rfl, rfl, rfl⟩ | ⟨rfl, rfl, rfl, rfl, rfl⟩ | ⟨rfl, rfl, rfl, rfl, rfl⟩
  all_goals
    rcases ad with _ | ad
    (obtain rfl := hcap' rfl)
    all_goals
      clear hcap'
      go_enter Try.func3, Try.ntmps3
      go_upto_if 32 with (go_at_call 8; refine HS.out.mono ?_; rintro e w1 ⟨rfl, hb1⟩; rw [HB.out])
      go_wp2_with fail
      refine (HX.out _).mono ?_; rintro e w' ⟨rfl, rfl⟩
      go_wp2_with fail
      refine (HY.out _).mono ?_; rintro e w' ⟨rfl, rfl⟩
      go_wp2_with fail
      refine (HZ.out _).mono ?_; rintro e w' ⟨rfl, rfl⟩
      go_wp2_with fail
      refine (HW.out _).mono ?_; rintro e w' ⟨rfl, rfl⟩
      go_wp2_with fail
      refine (sortN_any _ _ _).mono ?_; rintro e w2 ⟨rfl, hb2⟩
      have HB12 := Lib.hid (hb1.trans (hb2.mono hb1.size))
      clear hb1 hb2
      go_wp2_with fail
      have hw2 := @drew_below w2
      go_region_held3 (fun w' => True) (exact True.intro) (first
        | (refine step_append_run (by rfl) (.tmp 89) (.tmp 93) 22 _ _ _ (by rfl) (by rfl) (by rfl) (append_none _) ?_)
        | (go_at_call 11; refine (sortN_any _ _ _).mono ?_; rintro e w3 ⟨rfl, hb3⟩; have hB3 : Below w2.heap.size w2 w3 := Below.trans (by assumption) (hb3.mono (Below.size (by assumption)))))
      all_goals
        have HB6 := Lib.hid (HB12.out.trans (Below.mono (by assumption) HB12.out.size))
        go_wp2_with fail
        refine (alive_any _).mono ?_
        rintro e w7 ⟨rfl, hb7⟩
        have HB7 := Lib.hid (HB6.out.trans (hb7.mono HB6.out.size))
        clear hb7
        go_wp2_with fail
        refine (HSA.out _).mono ?_
        rintro e w8 ⟨rfl, hb8⟩
        rw [show decide True = true from rfl]
        have HB8 := Lib.hid (HB7.out.trans (hb8.mono HB7.out.size))
        clear hb8
        go_wp2_with fail
        refine (sortN_any _ _ _).mono ?_
        rintro e w9 ⟨rfl, hb9⟩
        have HB9 := Lib.hid (HB8.out.trans (hb9.mono HB8.out.size))
        clear hb9
        go_wp2_with fail
        refine (HSA.out _).mono ?_
        rintro e w10 ⟨rfl, hb10⟩
        rw [show decide True = true from rfl]
        have HB10 := Lib.hid (HB9.out.trans (hb10.mono HB9.out.size))
        clear hb10
        go_wp2
        go_ret
        exact ⟨rfl, HB10.out⟩

theorem ways (a b c : ByteArray) : Ways (cmpS a b) (cmpS b c) (cmpS a c) (cmpS b a) (a.toList == b.toList) := by
  have h1 := cmpS_neg a b
  have h2 := cmpS_trans a b c
  have h3 := cmpS_trans' a b c
  have h4 := cmpS_zero a b
  have h5 := cmpS_zero b c
  have h6 := cmpS_zero a c
  have e : (a.toList == b.toList) = decide (cmpS a b = 0) := by
    by_cases h : a = b
    · rw [decide_eq_true (h4.2 h), h]; simp
    · rw [decide_eq_false (fun hh => h (h4.1 hh))]
      cases hh : (a.toList == b.toList)
      · rfl
      · exact absurd (toList_eq' (p := a) (q := b) (by simp [hh])) h
  have ex1 : cmpS a b = 0 → cmpS a c = cmpS b c := fun h => by rw [h4.1 h]
  have ex2 : cmpS b c = 0 → cmpS a c = cmpS a b := fun h => by rw [h5.1 h]
  have ex3 : cmpS a b = -1 → cmpS b c = -1 → cmpS a c = -1 := fun g1 g2 => by
    have := h2 (by omega) (by omega)
    rcases cmp_three a c with h | h | h
    · exact h
    · have hac := h6.1 h
      subst hac
      rw [h1] at g2
      omega
    · omega
  have ex4 : cmpS a b = 1 → cmpS b c = 1 → cmpS a c = 1 := fun g1 g2 => by
    have := h3 (by omega) (by omega)
    rcases cmp_three a c with h | h | h
    · omega
    · have hac := h6.1 h
      subst hac
      rw [h1] at g2
      omega
    · exact h
  rw [e, h1]
  unfold Ways
  rcases cmp_three a b with g1 | g1 | g1 <;> rcases cmp_three b c with g2 | g2 | g2 <;> rcases cmp_three a c with g3 | g3 | g3 <;> rw [g1, g2, g3] <;> rw [g1] at ex1 ex2 ex3 ex4 <;> rw [g2] at ex1 ex2 ex3 ex4 <;> rw [g3] at ex1 ex2 ex3 ex4 <;> first | (exfalso; first | exact absurd (ex1 rfl) (by decide) | exact absurd (ex2 rfl) (by decide) | exact absurd (ex3 rfl rfl) (by decide) | exact absurd (ex4 rfl rfl) (by decide)) | simp

theorem NameOrders_walk (a b c : ByteArray) (v : Value) (ss : List ByteArray) (w : World) (ha : a.size ≤ 140737488351232) (hb : b.size ≤ 140737488351232) (hc : c.size ≤ 140737488351232) (hv : TextsCap w v ss) :
    Calls Try.prog 3 #[.string a, .string b, .string c, v] w fun e w' => e = .returned (.bool true) ∧ Below w.heap.size w w' := by
  by_cases h : (a.size : Int) ≤ 3000 ∧ (b.size : Int) ≤ 3000 ∧ (c.size : Int) ≤ 3000 ∧ shortB 300 9000 ss = true
  · obtain ⟨h1, h2, h3, h4⟩ := h
    by_cases hne : ss = []
    · subst hne
      exact NameOrders_nil a b c _ _ _ _ _ v w hv h1 h2 h3 h4 rfl rfl rfl rfl rfl (ways a b c)
    · exact NameOrders_ok a b c _ _ _ _ _ v ss w hv h1 h2 h3 h4 rfl rfl rfl rfl rfl hne (ways a b c)
  · refine NameOrders_bad a b c v ss w hv.1 ha hb hc ?_
    by_cases h1 : 3000 < (a.size : Int)
    · exact .inl (.inl h1)
    by_cases h2 : 3000 < (b.size : Int)
    · exact .inl (.inr (.inl h2))
    by_cases h3 : 3000 < (c.size : Int)
    · exact .inl (.inr (.inr h3))
    refine .inr ⟨by omega, by omega, by omega, ?_⟩
    cases h4 : shortB 300 9000 ss
    · rfl
    · exact absurd ⟨by omega, by omega, by omega, h4⟩ h

end Go.Proofs.Ytakekmodimnadaa
