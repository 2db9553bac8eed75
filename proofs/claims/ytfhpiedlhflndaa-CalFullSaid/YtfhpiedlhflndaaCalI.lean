/-
  The walk of CalWeeks.
-/
import Derived.Test.YtfhpiedlhflndaaCalH
namespace Go.Proofs.Ytfhpiedlhflndaa
open Go.RowKit Go.Maps CalPure

theorem Keeps.closed {w0 W W' : World} {b : Nat} {D D' : DU} (h : Keeps w0 b D W) (hb : w0.heap.size ≤ b) (hg : W.grownBy W' (some b)) (hc : CalAt W' b D') : Keeps w0 b D' W' :=
  ⟨h.1.grown hg h.1.size (fun j hj => by cases hj; exact hb), hc⟩

/-- Besides the calendar a slice of numbers is kept in sight. -/
def KeepsL (w0 : World) (b : Nat) (D : DU) (v : Value) (xs : List Int) (W : World) : Prop := Keeps w0 b D W ∧ IntsAt W v xs

theorem KeepsL.step {w0 W W' : World} {b : Nat} {D : DU} {v : Value} {xs : List Int} (h : KeepsL w0 b D v xs W) (hb : Below W.heap.size W W') : KeepsL w0 b D v xs W' :=
  ⟨h.1.step hb, h.2.below hb⟩

def oneD (d : Int) : DU := putAll (.map []) [d, d]
theorem oneD_eq (d : Int) : oneD d = .map [(.int .i64 d, .agg [])] := by
  simp [oneD, putAll, DataW.put, DataW.insert, Lit.sameKey]
theorem oneD_hol (d x : Int) : holD (oneD d) x = (d == x) := by
  rw [oneD_eq]; simp [holD, Maps.has, Lit.sameKey]
  rw [Bool.eq_iff_iff]; simp
theorem oneD_close (d : Int) (h0 : 0 ≤ d) (h1 : d ≤ 1000000) : closeE (.map []) [d, d] = 0 := by
  unfold closeE
  rw [if_neg (by simp [isDayB, h0, h1]), if_neg (by show ¬ 300 < Maps.size (oneD d); rw [oneD_eq]; simp [Maps.size])]
theorem oneD_sorted (d : Int) : sortedD (oneD d) = [d] := by
  have := sortedD_perm (oneD d)
  rw [oneD_eq] at this ⊢
  exact List.perm_singleton.1 this
theorem none_close : closeE (.map []) [] = 0 := rfl

theorem cnt_one (d : Int) : ∀ (k : Nat) (a : Int), cnt (holD (oneD d)) k a = cnt (fun _ => false) k a - (if isB (fun _ => false) d = true ∧ a < d ∧ d ≤ a + k then 1 else 0)
  | 0, a => by
    show (0 : Int) = 0 - _
    rw [if_neg (by omega)]; rfl
  | k + 1, a => by
    have ih := cnt_one d k (a + 1)
    show (if isB (holD (oneD d)) (a + 1) then (1 : Int) else 0) + cnt (holD (oneD d)) k (a + 1) = (if isB (fun _ => false) (a + 1) then (1 : Int) else 0) + cnt (fun _ => false) k (a + 1) - _
    rw [ih]
    by_cases e : d = a + 1
    · subst e
      have h1 : isB (holD (oneD (a + 1))) (a + 1) = false := by simp [isB, oneD_hol]
      rw [h1]; grind
    · have h1 : isB (holD (oneD d)) (a + 1) = isB (fun _ => false) (a + 1) := by
        have : holD (oneD d) (a + 1) = false := by rw [oneD_hol]; simpa using e
        simp [isB, this]
      rw [h1]
      grind

theorem hol0 : holD (.map []) = fun _ => false := by funext x; rfl

/-- What the statement says, of the days alone. -/
structure Weeks (a n d : Int) (less : Int) : Prop where
  d0 : days (holD (.map [])) a (a + 7 * n) = 5 * n
  d1 : days (holD (oneD d)) a (a + 7 * n) = 5 * n - less
  no : isB (holD (oneD d)) d = false
  nx : isB (holD (oneD d)) (d + 1) = isB (holD (.map [])) (d + 1)

def lessOf (a n d : Int) : Int := if isB (holD (.map [])) d = true ∧ a < d ∧ d ≤ a + 7 * n then 1 else 0

theorem weeks_hold (a n d : Int) (h0 : 0 ≤ a) (h1 : a ≤ 900000) (h2 : 0 ≤ n) (h3 : n ≤ 100) : Weeks a n d (lessOf a n d) := by
  have hw := weeks n.toNat a (by omega) (by omega)
  have ek : (a + 7 * n - a).toNat = 7 * n.toNat := by omega
  have e2 : (((7 * n.toNat : Nat)) : Int) = 7 * n := by omega
  refine ⟨?_, ?_, ?_, ?_⟩
  · rw [days_of _ (by omega) (by omega), hol0, ek, hw]; omega
  · rw [days_of _ (by omega) (by omega), cnt_one, ek, hw, e2]
    unfold lessOf
    rw [hol0]
    have : (5 : Int) * (n.toNat : Int) = 5 * n := by omega
    rw [this]
  · simp [isB, oneD_hol]
  · have : holD (oneD d) (d + 1) = false := by rw [oneD_hol]; simp; omega
    simp [isB, this, hol0]

set_option maxHeartbeats 1600000 in
theorem CalWeeks_walk (a n d : Int) (w : World) (_ : (Lit.int .i64 a).wf = true) (_ : (Lit.int .i64 n).wf = true) (_ : (Lit.int .i64 d).wf = true) :
    Calls Try.prog 5 #[.int .i64 a, .int .i64 n, .int .i64 d] w fun e w' => e = .returned (.bool true) ∧ Below w.heap.size w w' := by
  by_cases hg : 0 ≤ a ∧ a ≤ 900000 ∧ 0 ≤ n ∧ n ≤ 100 ∧ 0 ≤ d ∧ d ≤ 999990
  · obtain ⟨g1, g2, g3, g4, g5, g6⟩ := hg
    have hv : IntsAt w (.slice none 0 0) [] := ⟨none, 0, rfl, by simp, by simp, .inl rfl⟩
    have HN := Lib.hid (new_any _ [] w hv)
    have HW := Lib.hid (weeks_hold a n d g1 g2 g3 g4)
    have HE := Lib.hid (oneD_close d g5 (by omega))
    clear hv
    go_enter Try.func5, Try.ntmps5
    go_wp2_with fail
    refine HN.out.mono ?_
    rw [none_close]
    rintro e w1 ⟨hb1, ⟨hz, _⟩ | ⟨_, b, rfl, hle, hc⟩⟩
    · exact absurd rfl hz
    have HL := Lib.hid hle
    have hk : Keeps w b (.map []) w1 := ⟨hb1, hc⟩
    clear hb1 hle hc
    have e0 := HW.out.d0
    obtain ⟨t, ht⟩ : ∃ t, t = isB (holD (.map [])) d := ⟨_, rfl⟩
    obtain ⟨u, hu⟩ : ∃ u, u = isB (holD (.map [])) (d + 1) := ⟨_, rfl⟩
    have HT := Lib.hid ht
    have HU := Lib.hid hu
    clear ht hu
    go_wp2_with (first
      | (go_at_call 12; refine (days_any _ _ _ _ _ hk.2).mono ?_; rintro e w2 ⟨rfl, hb2⟩; replace hk := hk.step hb2; clear hb2))
    have e1 := HW.out.d1
    have e2 := HW.out.no
    have e3 := HW.out.nx
    rw [← HU.out] at e3
    obtain ⟨l, hl⟩ : ∃ l, l = lessOf a n d := ⟨_, rfl⟩
    rw [← hl] at e1
    have hcase : (t = true ∧ l = 1 ∧ a < d ∧ d ≤ a + 7 * n) ∨ (t = false ∧ l = 0) ∨ (t = true ∧ l = 0 ∧ d ≤ a) ∨ (t = true ∧ l = 0 ∧ a < d ∧ a + 7 * n < d) := by
      have ht := HT.out
      unfold lessOf at hl
      rw [← ht] at hl
      cases t
      · right; left; exact ⟨rfl, by rw [hl, if_neg (by simp)]⟩
      · by_cases c1 : a < d
        · by_cases c2 : d ≤ a + 7 * n
          · left; exact ⟨rfl, by rw [hl, if_pos ⟨rfl, c1, c2⟩], c1, c2⟩
          · right; right; right; exact ⟨rfl, by rw [hl, if_neg (fun h => c2 h.2.2)], c1, by omega⟩
        · right; right; left; exact ⟨rfl, by rw [hl, if_neg (fun h => c1 h.2.1)], by omega⟩
    have HC := Lib.hid hcase
    clear hl hcase e0
    refine (is_any _ _ _ _ hk.2).mono ?_
    rw [← HT.out]
    rintro e w3 ⟨rfl, hb3⟩
    replace hk := hk.step hb3
    clear hb3
    go_wp2_with fail
    refine (is_any _ _ _ _ hk.2).mono ?_
    rw [← HU.out]
    rintro e w4 ⟨rfl, hb4⟩
    replace hk := hk.step hb4
    clear hb4
    have hB : Below w4.heap.size w4 (w4.alloc (.cells #[.int .i64 d, .int .i64 d] 3)) := (Below.refl _ _).alloc (Nat.le_refl _) _
    have hwd : (Lit.int .i64 d).wf = true := WalkArith.wf_i64 (by omega)
    have hv2 : IntsAt (w4.alloc (.cells #[.int .i64 d, .int .i64 d] 3)) (.slice (some ⟨w4.heap.size, 0, none⟩) 2 2) [d, d] :=
      ⟨_, _, rfl, by simp, by simp; exact hwd, .inr ⟨_, _, rfl, by simp, fun j hj => by
        have hj : j = 0 ∨ j = 1 := (by simp at hj; omega)
        rcases hj with rfl | rfl <;> simp⟩⟩
    have hk5 := hk.step hB
    have hcl := close_any b (.map []) _ [d, d] _ hk5.2 hv2 (by simp [Maps.size])
    have hDD : closeD (.map []) [d, d] = oneD d := by unfold closeD; rw [if_pos HE.out]; rfl
    rw [HE.out, hDD] at hcl
    have HCL := Lib.hid hcl
    have HK5 := Lib.hid hk5
    clear hcl hDD hv2 hk5 hB hk
    go_wp2_with fail
    refine HCL.out.mono ?_
    rintro e w6 ⟨rfl, hg6, hc6⟩
    have hk : Keeps w b (oneD d) w6 := HK5.out.closed HL.out hg6 hc6
    clear hg6 hc6 HCL HK5
    go_wp2_with fail
    refine (holidays_any b (oneD d) _ hk.2 (by rw [oneD_eq]; simp [Maps.size])).mono ?_
    rw [oneD_sorted]
    rintro e w7 ⟨v, rfl, ⟨hi, _⟩, hb7⟩
    have hkl : KeepsL w b (oneD d) v [d] w7 := ⟨hk.step hb7, hi⟩
    obtain ⟨va, vc, rfl, _, _, hcs⟩ := hi
    obtain ⟨vb, voff, rfl, _, _⟩ := IntsAt.ne hcs (k := 0) (by simp)
    clear hcs hb7 hk hwd
    rcases HC.out with ⟨rfl, rfl, c1, c2⟩ | ⟨rfl, rfl⟩ | ⟨rfl, rfl, c1⟩ | ⟨rfl, rfl, c1, c2⟩
    all_goals
      clear HC
      go_wp2_with fail
      refine (alive_any _).mono ?_
      rintro e w8 ⟨rfl, hb8⟩
      replace hkl := hkl.step hb8
      clear hb8
      go_wp2_with fail
      refine (is_any _ _ _ _ hkl.1.2).mono ?_
      rintro e w9 ⟨rfl, hb9⟩
      replace hkl := hkl.step hb9
      clear hb9
      go_wp2_with fail
      refine (is_any _ _ _ _ hkl.1.2).mono ?_
      rintro e w10 ⟨rfl, hb10⟩
      replace hkl := hkl.step hb10
      clear hb10
      have hcell : w10.cell? ⟨vb, voff + 0, none⟩ = some (.int .i64 d) := by
        obtain ⟨a1, c1, e1, _, _, h⟩ := hkl.2
        simp only [Value.slice.injEq] at e1
        obtain ⟨b2, o2, e2, _, h3⟩ := IntsAt.ne h (k := 0) (by simp)
        rw [e2] at e1
        simp only [Option.some.injEq, Addr.mk.injEq] at e1
        obtain ⟨⟨rfl, rfl, _⟩, _⟩ := e1
        exact h3 0 (by simp)
      rw [Nat.add_zero] at hcell
      go_wp2_with fail
      refine (days_any _ _ _ _ _ hkl.1.2).mono ?_
      rintro e w11 ⟨rfl, hb11⟩
      replace hkl := hkl.step hb11
      go_wp2_with fail
      go_ret
      exact ⟨rfl, hkl.1.1⟩
  · have Hg := Lib.hid hg
    clear hg
    go_enter Try.func5, Try.ntmps5
    go_wp2_with (first
      | (go_at_call 8; refine (alive_any _).mono ?_; rintro e w2 ⟨rfl, hb2⟩))
    all_goals first
      | (go_ret; exact ⟨rfl, hb2⟩)
      | (exfalso; have := Hg.out; omega)

end Go.Proofs.Ytfhpiedlhflndaa
