/-
  value: up, much.
-/
import Derived.Test.YtnehamkpeeadjaaValF
import Derived.Test.YtnehamkpeeadjaaValI
namespace Go.Proofs.Ytnehamkpeeadjaa
open Go.RowKit

def upV (n u m : Int) : Int × Bool := match upF n u m with | some q => (q, true) | none => (0, false)

theorem up_any (n u m : Int) (w : World) (h0 : 0 ≤ n) (h1 : n ≤ 1152921504606846976) (hu : 1 ≤ u) (hu2 : i64 u) (hm : 1 ≤ m) (hm2 : i64 m) :
    Calls Try.prog 23 #[.int .i64 n, .int .i64 u, .int .i64 m] w fun e w' => e = .returned (.tuple #[.int .i64 (upV n u m).1, .bool (upV n u m).2]) ∧ w = w' := by
  unfold i64 at hu2 hm2
  by_cases c1 : m < n
  · have e : upV n u m = (0, false) := by rw [upV, upF, if_pos c1]
    rw [e]
    go_enter Try.func23, Try.ntmps23
    go_wp2
    go_ret2
    exact ⟨rfl, rfl⟩
  · have hb := emod_bd (n := n) hu
    have ht : n.tmod u = n % u := Int.tmod_eq_emod_of_nonneg h0
    obtain ⟨r, hr⟩ : ∃ r, r = n % u := ⟨_, rfl⟩
    rw [← hr] at hb ht
    have hne : (u == 0) = false := by simp; omega
    by_cases c2 : r = 0
    · have e : upV n u m = (n, true) := by rw [upV, upF, if_neg c1, ← hr, if_pos c2]
      rw [e]
      subst c2
      have hr2 := hr.symm
      clear hr
      have HT := Lib.hid ht
      go_enter Try.func23, Try.ntmps23
      go_wp2
      go_ret2
      exact ⟨rfl, rfl⟩
    · have c2' : (r == 0) = false := by simpa using c2
      have hr2 := hr.symm
      by_cases c3 : m - n < u - r
      · have e : upV n u m = (0, false) := by rw [upV, upF, if_neg c1, ← hr, if_neg c2, if_pos c3]
        rw [e]
        clear hr e
        go_enter Try.func23, Try.ntmps23
        go_wp2
        go_ret2
        exact ⟨rfl, rfl⟩
      · have e : upV n u m = (n + u - r, true) := by rw [upV, upF, if_neg c1, ← hr, if_neg c2, if_neg c3]
        rw [e]
        clear hr e
        go_enter Try.func23, Try.ntmps23
        go_wp2
        go_ret2
        refine ⟨?_, rfl⟩
        have e : wrap64 (wrap64 (n + u) - r) = n + u - r := by unfold wrap64; omega
        simp [e]


theorem i64_lit {n : Int} (h : i64 n) : (Lit.int .i64 n).wf = true := i64_wf h

/-- A stock that may not be picked of. -/
theorem much_not (lack : Int) (nm : ByteArray) (ca pl : Bool) (un le pr cu cl qt : Int) (w : World) (h : okB ⟨nm, ca, pl, un, le, pr, cu, cl, qt⟩ = false) :
    Calls Try.prog 14 #[.int .i64 lack, .agg #[.string nm, .bool ca, .bool pl, .int .i64 un, .int .i64 le, .int .i64 pr, .int .i64 cu, .int .i64 cl, .int .i64 qt]] w fun e w' =>
      e = .returned (.tuple #[.int .i64 0, .int .i64 0]) ∧ Below w.heap.size w w' := by
  simp only [okB] at h
  cases pl with
  | false =>
    clear h
    go_enter Try.func14, Try.ntmps14
    go_wp2
    go_ret2
    exact ⟨rfl, (Below.refl _ _).alloc (Nat.le_refl _) _⟩
  | true =>
    by_cases h1 : un < 1
    · have h1' : decide (un < 1) = true := by simpa using h1
      clear h
      go_enter Try.func14, Try.ntmps14
      go_wp2
      go_ret2
      exact ⟨rfl, (Below.refl _ _).alloc (Nat.le_refl _) _⟩
    · have h2 : qt < 1 := by simp at h; omega
      have h2' : decide (qt < 1) = true := by simpa using h2
      have h1' : decide (un < 1) = false := by simpa using h1
      clear h
      go_enter Try.func14, Try.ntmps14
      go_wp2
      go_ret2
      exact ⟨rfl, (Below.refl _ _).alloc (Nat.le_refl _) _⟩

theorem much_of {lack q : Int} {x : Stk} {r : Int × Int} (h : okB x = true) (hq : pickQ lack x = q) (hr : r = worthF q x.price x.cut) : muchF lack x = if r.2 ≠ 0 ∨ r.1 = 0 then (0, 0) else (q, r.1) := by
  rw [muchF, if_neg (by rw [h]; simp), hq, ← hr]

set_option maxHeartbeats 1600000 in
theorem much_yes (lack : Int) (nm : ByteArray) (ca pl : Bool) (un le pr cu cl qt : Int) (w : World) (h : okB ⟨nm, ca, pl, un, le, pr, cu, cl, qt⟩ = true) (hx : (⟨nm, ca, pl, un, le, pr, cu, cl, qt⟩ : Stk).wf) (h0 : i64 lack) :
    Calls Try.prog 14 #[.int .i64 lack, .agg #[.string nm, .bool ca, .bool pl, .int .i64 un, .int .i64 le, .int .i64 pr, .int .i64 cu, .int .i64 cl, .int .i64 qt]] w fun e w' =>
      e = .returned (.tuple #[.int .i64 (muchF lack ⟨nm, ca, pl, un, le, pr, cu, cl, qt⟩).1, .int .i64 (muchF lack ⟨nm, ca, pl, un, le, pr, cu, cl, qt⟩).2]) ∧ Below w.heap.size w w' := by
  have HOK := Lib.hid h
  obtain ⟨hp1, hu1, hq1⟩ := ok_yes h
  simp only at hp1 hu1 hq1
  subst hp1
  have HX := Lib.hid hx
  obtain ⟨x1, x2, x3, x4, x5, x6⟩ := id hx
  simp only at x1 x2 x3 x4 x5 x6
  have HN := Lib.hid (fun W => need_any lack pr cu W (i64_wf h0) (i64_wf x3))
  have HWO := Lib.hid (fun q W (hq : i64 q) => worth_any q pr cu W (i64_wf hq) (i64_wf x3))
  have HUP := Lib.hid (fun n W a b => up_any n un qt W a b hu1 x1 hq1 x6)
  have HBD := Lib.hid (pickQ_bd (lack := lack) h)
  have HQW := Lib.hid (show i64 (pickQ lack ⟨nm, ca, true, un, le, pr, cu, cl, qt⟩) from ⟨by have := HBD.out.1; omega, by have h1 := HBD.out.2.1; have h2 := x6.2; simp only at h1; omega⟩)
  have HALL := Lib.hid (all_is hu1 hq1)
  have ht : qt.tmod un = qt % un := Int.tmod_eq_emod_of_nonneg (by omega)
  have hne : (un == 0) = false := by simp; omega
  have hs1 : IntKind.i64.wrap (qt % un) = qt % un := by
    have := emod_bd (n := qt) hu1
    obtain ⟨y1, y2⟩ := x1
    exact IntWalk.i64_in _ (by omega)
  have hs2 : IntKind.i64.wrap (qt - qt % un) = qt - qt % un := by
    obtain ⟨y1, y2⟩ := all_is hu1 hq1
    obtain ⟨y3, y4⟩ := x6
    exact IntWalk.i64_in _ (by omega)
  have HS := Lib.hid (And.intro ht (And.intro hne (And.intro hs1 hs2)))
  have hun : decide (un < 1) = false := by simp; omega
  have hqt : decide (qt < 1) = false := by simp; omega
  clear h hx h0 x1 x2 x3 x4 x5 x6 ht hne hs1 hs2 HBD
  go_enter Try.func14, Try.ntmps14
  go_wp2_with fail
  refine (HN.out _).mono ?_
  rintro e w1 ⟨n, k, hN, rfl, hb1⟩
  have c3 : w1.cell? ⟨w.heap.size, 3, none⟩ = some (.int .i64 un) := by rw [hb1.cell (p := ⟨w.heap.size, 3, none⟩) (by simp)]; simp
  have c5 : w1.cell? ⟨w.heap.size, 5, none⟩ = some (.int .i64 pr) := by rw [hb1.cell (p := ⟨w.heap.size, 5, none⟩) (by simp)]; simp
  have c6 : w1.cell? ⟨w.heap.size, 6, none⟩ = some (.int .i64 cu) := by rw [hb1.cell (p := ⟨w.heap.size, 6, none⟩) (by simp)]; simp
  have c8 : w1.cell? ⟨w.heap.size, 8, none⟩ = some (.int .i64 qt) := by rw [hb1.cell (p := ⟨w.heap.size, 8, none⟩) (by simp)]; simp
  have HB1 := Lib.hid (((Below.refl _ w).alloc (Nat.le_refl _) _).trans (hb1.mono (by simp)))
  clear hb1
  rcases need_is hN with ⟨rfl, e1, n0, n1⟩ | ⟨hk, e1⟩
  · have HE := Lib.hid e1
    have n2 : n ≤ 1152921504606846976 := by have := (most_bd pr).2; omega
    clear hN e1 n1
    cases hup : upF n un qt with
    | some q =>
      have HPQ := Lib.hid (show pickQ lack ⟨nm, ca, true, un, le, pr, cu, cl, qt⟩ = q by rw [pickQ]; simp only; rw [HE.out, Option.bind_some, hup]; rfl)
      rw [HPQ.out] at HQW
      have HU2 := Lib.hid (show upV n un qt = (q, true) by rw [upV, hup])
      clear hup
      go_wp2_with fail
      refine (HUP.out n _ n0 n2).mono ?_
      rw [HU2.out]
      rintro e w' ⟨rfl, rfl⟩
      go_wp2_with fail
      refine (HWO.out q _ HQW.out).mono ?_
      rintro e w2 ⟨rfl, hb2⟩
      have HB2 : Hid (Below w.heap.size w w2) := Lib.hid (by first | exact HB1.out.trans (hb2.mono HB1.out.size) | exact (below_drewN HB1.out _).trans (hb2.mono HB1.out.size))
      clear hb2
      obtain ⟨r, hr⟩ : ∃ r, r = worthF q pr cu := ⟨_, rfl⟩
      have HF := Lib.hid (much_of (lack := lack) HOK.out HPQ.out hr)
      rw [← hr]
      clear hr
      obtain ⟨r1, r2⟩ := r
      by_cases z2 : r2 = 0
      · subst z2
        by_cases z1 : r1 = 0
        · subst z1
          go_wp2
          go_ret2
          exact ⟨by rw [HF.out]; rfl, HB2.out⟩
        · have z1' : (r1 == 0) = false := by simpa using z1
          clear z1
          go_wp2
          go_ret2
          exact ⟨by rw [HF.out, if_neg (by intro hh; simp at hh; subst hh; simp at z1')]; rfl, HB2.out⟩
      · have z2' : (r2 == 0) = false := by simpa using z2
        have z2'' : (r2 != 0) = true := by simpa using z2
        have HZ := Lib.hid z2
        clear z2
        go_wp2
        go_ret2
        exact ⟨by rw [HF.out, if_pos (.inl HZ.out)]; rfl, HB2.out⟩
    | none =>
      have HPQ := Lib.hid (show pickQ lack ⟨nm, ca, true, un, le, pr, cu, cl, qt⟩ = qt - qt % un by rw [pickQ]; simp only; rw [HE.out, Option.bind_some, hup]; rfl)
      rw [HPQ.out] at HQW
      have HU2 := Lib.hid (show upV n un qt = (0, false) by rw [upV, hup])
      clear hup
      go_wp2_with fail
      refine (HUP.out n _ n0 n2).mono ?_
      rw [HU2.out]
      rintro e w' ⟨rfl, rfl⟩
      go_wp2_with fail
      obtain ⟨ht, hne, hs1, hs2⟩ := HS.out
      go_quiet (fail)
      clear ht hne hs1 hs2
      go_wp2_with fail
      refine (HWO.out (qt - qt % un) _ HQW.out).mono ?_
      rintro e w2 ⟨rfl, hb2⟩
      have HB2 : Hid (Below w.heap.size w w2) := Lib.hid (by first | exact HB1.out.trans (hb2.mono HB1.out.size) | exact (below_drewN HB1.out _).trans (hb2.mono HB1.out.size))
      clear hb2
      obtain ⟨r, hr⟩ : ∃ r, r = worthF (qt - qt % un) pr cu := ⟨_, rfl⟩
      have HF := Lib.hid (much_of (lack := lack) HOK.out HPQ.out hr)
      rw [← hr]
      clear hr
      obtain ⟨r1, r2⟩ := r
      by_cases z2 : r2 = 0
      · subst z2
        by_cases z1 : r1 = 0
        · subst z1
          go_wp2
          go_ret2
          exact ⟨by rw [HF.out]; rfl, HB2.out⟩
        · have z1' : (r1 == 0) = false := by simpa using z1
          clear z1
          go_wp2
          go_ret2
          exact ⟨by rw [HF.out, if_neg (by intro hh; simp at hh; subst hh; simp at z1')]; rfl, HB2.out⟩
      · have z2' : (r2 == 0) = false := by simpa using z2
        have z2'' : (r2 != 0) = true := by simpa using z2
        have HZ := Lib.hid z2
        clear z2
        go_wp2
        go_ret2
        exact ⟨by rw [HF.out, if_pos (.inl HZ.out)]; rfl, HB2.out⟩
  · have HPQ := Lib.hid (show pickQ lack ⟨nm, ca, true, un, le, pr, cu, cl, qt⟩ = qt - qt % un by rw [pickQ]; simp only; rw [e1]; rfl)
    rw [HPQ.out] at HQW
    clear hN e1
    rcases hk with rfl | rfl
    all_goals
      go_wp2_with fail
      obtain ⟨ht, hne, hs1, hs2⟩ := HS.out
      go_quiet (fail)
      clear ht hne hs1 hs2
      go_wp2_with fail
      refine (HWO.out (qt - qt % un) _ HQW.out).mono ?_
      rintro e w2 ⟨rfl, hb2⟩
      have HB2 : Hid (Below w.heap.size w w2) := Lib.hid (by first | exact HB1.out.trans (hb2.mono HB1.out.size) | exact (below_drewN HB1.out _).trans (hb2.mono HB1.out.size))
      clear hb2
      obtain ⟨r, hr⟩ : ∃ r, r = worthF (qt - qt % un) pr cu := ⟨_, rfl⟩
      have HF := Lib.hid (much_of (lack := lack) HOK.out HPQ.out hr)
      rw [← hr]
      clear hr
      obtain ⟨r1, r2⟩ := r
      by_cases z2 : r2 = 0
      · subst z2
        by_cases z1 : r1 = 0
        · subst z1
          go_wp2
          go_ret2
          exact ⟨by rw [HF.out]; rfl, HB2.out⟩
        · have z1' : (r1 == 0) = false := by simpa using z1
          clear z1
          go_wp2
          go_ret2
          exact ⟨by rw [HF.out, if_neg (by intro hh; simp at hh; subst hh; simp at z1')]; rfl, HB2.out⟩
      · have z2' : (r2 == 0) = false := by simpa using z2
        have z2'' : (r2 != 0) = true := by simpa using z2
        have HZ := Lib.hid z2
        clear z2
        go_wp2
        go_ret2
        exact ⟨by rw [HF.out, if_pos (.inl HZ.out)]; rfl, HB2.out⟩

end Go.Proofs.Ytnehamkpeeadjaa
