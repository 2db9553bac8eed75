/-
  What SameTexts answers.
-/
import Derived.Test.YtgbknjpjhkegdaaGreatNamF
namespace Go.Proofs.YtgbknjpjhkegdaaGreat
open Go.RowKit Go.Maps Go.WideMaps

theorem toList_ne {p q : ByteArray} (h : (!p.toList == q.toList) = true) : p ≠ q := by
  rintro rfl; simp at h
theorem toList_eq' {p q : ByteArray} (h : (!p.toList == q.toList) = false) : p = q := by
  rw [ByteArray.toList_eq, ByteArray.toList_eq] at h
  have he : p.data.toList = q.data.toList := by simpa using h
  exact ByteArray.ext (Array.toList_inj.1 he)

theorem below_drewN' {w : World} (n : Nat) : Below w.heap.size w (w.drewN n) := below_drewN (Below.refl _ _) n

set_option maxHeartbeats 800000 in
theorem same_any (v u : Value) (ss ts : List ByteArray) (w : World) (hv : TextsAt w v ss) (hu : TextsAt w u ts) :
    Calls Tryz.prog 9 #[v, u] w fun e w' => e = .returned (.bool (decide (ss = ts))) ∧ Below w.heap.size w w' := by
  obtain ⟨a, c, rfl, hlen, hss, hcs⟩ := hv
  obtain ⟨a2, c2, rfl, hlen2, hts, hcs2⟩ := hu
  obtain ⟨n, hn⟩ : ∃ n, n = ss.length := ⟨_, rfl⟩
  obtain ⟨m, hm⟩ : ∃ m, m = ts.length := ⟨_, rfl⟩
  rw [← hn] at hlen ⊢
  rw [← hm] at hlen2 ⊢
  obtain ⟨r, hr⟩ : ∃ r, r = decide (ss = ts) := ⟨_, rfl⟩
  rw [← hr]
  have HX := Lib.hid hcs
  have HY := Lib.hid hcs2
  have HN := Lib.hid hn
  have HM := Lib.hid hm
  have HR := Lib.hid hr
  clear hcs hcs2 hss hts hn hm hr
  by_cases hnm : n = m
  · subst hnm
    go_enter Tryz.func9, Tryz.ntmps9
    go_wp2
    go_loopw [5] (fun i wr => ∃ k : Nat, i = .int .i64 k ∧ k ≤ n ∧ Hid (∀ j, j < k → ss.getD j ByteArray.empty = ts.getD j ByteArray.empty) ∧ Below w.heap.size w wr) (fun i _ => (n - RowKit.intOf i).toNat)
    case atStart => exact ⟨0, rfl, Nat.zero_le _, Lib.hid (fun j hj => absurd hj (Nat.not_lt_zero _)), Below.refl _ _⟩
    case round =>
      obtain ⟨k, rfl, hk, A, hbw⟩ := hrel
      by_cases hlt : k < n
      · have hltz : (k : Int) < (n : Int) := by omega
        obtain ⟨b1, off1, rfl, hb1, hc1⟩ := TextsAt.ne HX.out (k := k) (by rw [← HN.out]; exact hlt)
        obtain ⟨b2, off2, rfl, hb2, hc2⟩ := TextsAt.ne HY.out (k := k) (by rw [← HM.out]; exact hlt)
        have cell1 := hc1 k (by rw [← HN.out]; exact hlt)
        have cell2 := hc2 k (by rw [← HM.out]; exact hlt)
        rw [← hbw.cell (p := ⟨b1, off1 + k, none⟩) hb1] at cell1
        rw [← hbw.cell (p := ⟨b2, off2 + k, none⟩) hb2] at cell2
        obtain ⟨p, hp⟩ : ∃ p, p = ss.getD k ByteArray.empty := ⟨_, rfl⟩
        obtain ⟨q, hq⟩ : ∃ q, q = ts.getD k ByteArray.empty := ⟨_, rfl⟩
        rw [← hp] at cell1
        rw [← hq] at cell2
        have HP := Lib.hid hp
        have HQ := Lib.hid hq
        clear hc1 hc2 hb1 hb2 hp hq
        go_wp2
        go_quiet (fail)
        go_wp2
        · have h : (!p.toList == q.toList) = true := by assumption
          have hr : r = false := by
            rw [HR.out, decide_eq_false_iff_not]
            intro e
            exact toList_ne h (by rw [HP.out, HQ.out, e])
          go_ret
          exact ⟨by rw [hr]; rfl, hbw.trans ((below_drewN' _).mono hbw.size)⟩
        · have h : (!p.toList == q.toList) = false := by assumption
          go_roundw
          case rel =>
            refine ⟨k + 1, by go_num, by omega, Lib.hid (fun j hj => ?_), hbw.trans ((below_drewN' _).mono hbw.size)⟩
            by_cases e : j = k
            · subst e; rw [← HP.out, ← HQ.out]; exact toList_eq' h
            · exact A.out j (by omega)
          case measure => simp [RowKit.intOf]; omega
      · have hltz : ¬ (k : Int) < (n : Int) := by omega
        have hr : r = true := by
          rw [HR.out, decide_eq_true_eq]
          refine List.ext_getElem (by rw [← HN.out, ← HM.out]) (fun j h1 h2 => ?_)
          have := A.out j (by rw [← HN.out] at h1; omega)
          rwa [getD_lt h1, getD_lt h2] at this
        have HRR := Lib.hid hr
        clear hr
        go_wp2
        go_ret
        exact ⟨by rw [HRR.out]; rfl, hbw⟩
  · have hr : r = false := by
      rw [HR.out, decide_eq_false_iff_not]
      intro e
      exact hnm (by rw [HN.out, HM.out, e])
    have h1 : ((n : Int) == (m : Int)) = false := by simp; omega
    have h2 : ((n : Int) != (m : Int)) = true := by simp; omega
    have HRR := Lib.hid hr
    clear hr
    go_enter Tryz.func9, Tryz.ntmps9
    go_wp2
    go_ret
    exact ⟨by rw [HRR.out]; rfl, Below.refl _ _⟩

end Go.Proofs.YtgbknjpjhkegdaaGreat
