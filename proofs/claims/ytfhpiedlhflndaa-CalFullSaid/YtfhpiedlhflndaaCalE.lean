/-
  The first call of each statement of chapter 8 ('alive') returns true.
-/
import Derived.Test.YtfhpiedlhflndaaCalD
namespace Go.Proofs.Ytfhpiedlhflndaa
open Go.RowKit Go.Maps CalPure

def D7 : DU := putAll (.map []) [7]
theorem hol7 (x : Int) : holD D7 x = (7 == x) := by
  simp [holD, D7, putAll, DataW.put, DataW.insert, Maps.has, Lit.sameKey]
  rw [Bool.eq_iff_iff]; simp
theorem is7 (d : Int) : isB (holD D7) d = (decide (0 ≤ d) && decide (d ≤ 1000000) && decide (d % 7 < 5) && !(7 == d)) := by rw [isB, hol7]
theorem next7 : next (holD D7) 4 = 8 := by
  unfold next
  rw [from1_of (by decide), nxt_step _ _ (by decide), is7, nxt_step _ _ (by decide), is7, nxt_step _ _ (by decide), is7, nxt_step _ _ (by decide), is7]
  decide
theorem next8 : next (holD D7) 8 = 9 := by
  unfold next
  rw [from1_of (by decide), nxt_step _ _ (by decide), is7]
  decide
theorem adds7 : adds (holD D7) (2 : Int).toNat 4 = 9 := by
  show adds (holD D7) 2 4 = 9
  rw [adds.eq_2, next7, if_neg (by decide), adds.eq_2, next8, if_neg (by decide)]; rfl
theorem days7 : days (holD D7) 0 7 = 4 := by
  rw [days_of _ (by decide) (by decide), cnt_step _ _ _ (by decide), cnt_step _ _ _ (by decide), cnt_step _ _ _ (by decide), cnt_step _ _ _ (by decide), cnt_step _ _ _ (by decide), cnt_step _ _ _ (by decide), cnt_step _ _ _ (by decide), cnt_end _ _ _ (by decide)]
  simp only [is7]
  decide
theorem close7 : closeE (.map []) [7] = 0 := by
  unfold closeE
  rw [if_neg (by decide), if_neg (by simp [Maps.size, putAll, DataW.put, DataW.insert])]

set_option maxHeartbeats 800000 in
theorem alive_any (w : World) : Calls Try.prog 8 #[] w fun e w' => e = .returned (.bool true) ∧ Below w.heap.size w w' := by
  have hB : Below w.heap.size w (w.alloc (.cells #[.int .i64 7] 3)) := (Below.refl _ _).alloc (Nat.le_refl _) _
  have hv : IntsAt (w.alloc (.cells #[.int .i64 7] 3)) (.slice (some ⟨w.heap.size, 0, none⟩) 1 1) [7] :=
    ⟨_, _, rfl, by decide, by simp; decide, .inr ⟨_, _, rfl, by simp, fun j hj => by obtain rfl : j = 0 := (by simpa using hj); simp⟩⟩
  have HV := Lib.hid hv
  have HB := Lib.hid hB
  clear hv hB
  go_enter Try.func8, Try.ntmps8
  go_wp2_with fail
  refine (new_any _ [7] _ HV.out).mono ?_
  rintro e w1 ⟨hb1, hne⟩
  rw [close7] at hne
  obtain ⟨b, rfl, hle, hc⟩ : ∃ b, e = .returned (.tuple #[.pointer (some ⟨b, 0, none⟩), .int .i64 0]) ∧ (w.alloc (.cells #[.int .i64 7] 3)).heap.size ≤ b ∧ CalAt w1 b D7 := by
    rcases hne with ⟨h, _⟩ | ⟨_, h⟩
    · exact absurd rfl h
    · exact h
  have hbw : Below w.heap.size w w1 := HB.out.trans (hb1.mono (by simp))
  have HC := Lib.hid hc
  clear hne hle hc hb1
  go_wp2_with fail
  have h4 : isB (holD D7) 4 = true := by rw [is7]; decide
  have h5 : isB (holD D7) 5 = false := by rw [is7]; decide
  refine (is_any b D7 4 _ HC.out).mono ?_
  rw [h4]
  rintro e w2 ⟨rfl, hb2⟩
  have HC2 := Lib.hid (HC.out.below hb2)
  have hbw2 := hbw.trans (hb2.mono hbw.size)
  clear hb2 hbw HC h4
  go_wp2_with fail
  refine (is_any b D7 5 _ HC2.out).mono ?_
  rw [h5]
  rintro e w3 ⟨rfl, hb3⟩
  have HC3 := Lib.hid (HC2.out.below hb3)
  have hbw3 := hbw2.trans (hb3.mono hbw2.size)
  clear hb3 hbw2 HC2 h5
  go_wp2_with fail
  refine (next_any b D7 4 _ HC3.out).mono ?_
  rw [next7]
  rintro e w4 ⟨rfl, hb4⟩
  have HC4 := Lib.hid (HC3.out.below hb4)
  have hbw4 := hbw3.trans (hb4.mono hbw3.size)
  clear hb4 hbw3 HC3
  go_wp2_with fail
  refine (add_any b D7 4 2 _ HC4.out (by decide) (by decide)).mono ?_
  rw [adds7]
  rintro e w5 ⟨rfl, hb5⟩
  have HC5 := Lib.hid (HC4.out.below hb5)
  have hbw5 := hbw4.trans (hb5.mono hbw4.size)
  clear hb5 hbw4 HC4
  go_wp2_with fail
  refine (days_any b D7 0 7 _ HC5.out).mono ?_
  rw [days7]
  rintro e w6 ⟨rfl, hb6⟩
  have hbw6 := hbw5.trans (hb6.mono hbw5.size)
  clear hb6 hbw5 HC5
  go_wp2_with fail
  go_ret
  exact ⟨rfl, hbw6⟩

end Go.Proofs.Ytfhpiedlhflndaa
