/-
  What Add and Days answer of a calendar, and of a nil one.
-/
import Derived.Test.YtfhpiedlhflndaaCalA
namespace Go.Proofs.Ytfhpiedlhflndaa
open Go.RowKit Go.Maps CalPure

theorem adds_step (h : Int → Bool) (n : Int) (d : Int) (hn : 0 < n) : adds h n.toNat d = if next h d < 0 then next h d else adds h (n - 1).toNat (next h d) := by
  obtain ⟨k, hk⟩ : ∃ k, n.toNat = k + 1 := ⟨n.toNat - 1, by omega⟩
  have : (n - 1).toNat = k := by omega
  rw [hk, this]; rfl

set_option maxHeartbeats 400000 in
theorem add_any (b : Nat) (D : DU) (d n : Int) (w : World) (hc : CalAt w b D) (hn0 : -9223372036854775808 ≤ n) (hn1 : n ≤ 9223372036854775807) : Calls Try.prog 11 #[.pointer (some ⟨b, 0, none⟩), .int .i64 d, .int .i64 n] w fun e w' => e = .returned (.int .i64 (adds (holD D) n.toNat d)) ∧ Below w.heap.size w w' := by
  have HN := Lib.hid (And.intro hn0 hn1)
  clear hn0 hn1
  go_enter Try.func11, Try.ntmps11
  go_wp2
  go_loopw [1, 2] (fun x i wr => ∃ y q : Int, x = .int .i64 y ∧ i = .int .i64 q ∧ Hid (adds (holD D) n.toNat d = adds (holD D) q.toNat y) ∧ Hid (q ≤ n ∧ (q = n ∨ 0 ≤ q)) ∧ Below w.heap.size w wr) (fun _ i _ => (RowKit.intOf i).toNat)
  case atStart => exact ⟨d, n, rfl, rfl, Lib.hid rfl, Lib.hid ⟨Int.le_refl _, .inl rfl⟩, Below.refl _ _⟩
  case round =>
    obtain ⟨y, q, rfl, rfl, Hq, Hn, hbw⟩ := hrel
    have HC := Lib.hid (hc.below hbw)
    by_cases hlt : 0 < q
    · have hst := adds_step (holD D) q y hlt
      rw [← Hq.out] at hst
      have hnb := next_bd (holD D) y
      obtain ⟨x, hx⟩ : ∃ x, x = next (holD D) y := ⟨_, rfl⟩
      have hq2 : q ≤ 9223372036854775807 := by have := HN.out; have := Hn.out; omega
      rw [← hx] at hst hnb
      have Hx := Lib.hid hx
      clear hx
      by_cases hx0 : x < 0
      · rw [if_pos hx0] at hst
        have Hst := Lib.hid hst
        clear hst Hq
        go_wp2_with (go_at_call 9; refine (next_any _ _ _ _ HC.out).mono ?_; rintro e w1 ⟨rfl, hb1⟩; rw [← Hx.out])
        go_ret
        exact ⟨by rw [Hst.out]; rfl, hbw.trans (hb1.mono hbw.size)⟩
      · rw [if_neg hx0] at hst
        have Hst := Lib.hid hst
        clear hst Hq
        go_wp2_with (go_at_call 9; refine (next_any _ _ _ _ HC.out).mono ?_; rintro e w1 ⟨rfl, hb1⟩; rw [← Hx.out])
        go_roundw
        case rel => exact ⟨x, q - 1, rfl, rfl, Hst, Lib.hid (by have := Hn.out; omega), hbw.trans (hb1.mono hbw.size)⟩
        case measure => simp [RowKit.intOf]; omega
    · have hst : adds (holD D) q.toNat y = y := by
        have : q.toNat = 0 := by omega
        rw [this]; rfl
      rw [← Hq.out] at hst
      have Hst := Lib.hid hst
      clear hst Hq
      go_wp2
      go_ret
      exact ⟨by rw [Hst.out]; rfl, hbw⟩

theorem days_nil (f t : Int) (w : World) : Calls Try.prog 12 #[.pointer none, .int .i64 f, .int .i64 t] w fun e w' => e = .returned (.int .i64 0) ∧ w = w' := by
  have hge := from1_ge f
  obtain ⟨s, hs⟩ : ∃ s, s = from1 f := ⟨_, rfl⟩
  obtain ⟨u, hu⟩ : ∃ u, u = upTo t := ⟨_, rfl⟩
  have hmax : ∀ w, (Builtin.max_ #[3, 3] 3 #[.int .i64 f, .int .i64 (-1)]).run Try.prog w = .ok (.int .i64 s) w := fun w => by rw [run_max_int2, hs]; rfl
  have hmin : ∀ w, (Builtin.min_ #[3, 3] 3 #[.int .i64 t, .int .i64 1000000]).run Try.prog w = .ok (.int .i64 u) w := fun w => by rw [run_min_int2, hu]; rfl
  rw [← hs] at hge
  have hle : u ≤ 1000000 := by rw [hu]; unfold upTo; split <;> omega
  clear hs hu
  go_enter Try.func12, Try.ntmps12
  go_wp2
  go_loop [7, 8] (fun c i => ∃ q : Int, i = .int .i64 q ∧ -1 ≤ q ∧ c = .int .i64 0) (fun _ i => (u - RowKit.intOf i).toNat)
  case atStart => exact ⟨s, rfl, hge, rfl⟩
  case round =>
    obtain ⟨q, rfl, hq, rfl⟩ := hrel
    by_cases hlt : q < u
    · go_wp2_with (go_at_call 10; refine (is_nil _ _).mono ?_; rintro e w1 ⟨rfl, rfl⟩)
      go_round
      case rel => exact ⟨q + 1, rfl, by omega, rfl⟩
      case measure => simp [RowKit.intOf]; omega
    · go_wp2
      go_ret
      exact ⟨rfl, rfl⟩

set_option maxHeartbeats 400000 in
theorem days_any (b : Nat) (D : DU) (f t : Int) (w : World) (hc : CalAt w b D) : Calls Try.prog 12 #[.pointer (some ⟨b, 0, none⟩), .int .i64 f, .int .i64 t] w fun e w' => e = .returned (.int .i64 (days (holD D) f t)) ∧ Below w.heap.size w w' := by
  have hge := from1_ge f
  obtain ⟨s, hs⟩ : ∃ s, s = from1 f := ⟨_, rfl⟩
  obtain ⟨u, hu⟩ : ∃ u, u = upTo t := ⟨_, rfl⟩
  have hmax : ∀ w, (Builtin.max_ #[3, 3] 3 #[.int .i64 f, .int .i64 (-1)]).run Try.prog w = .ok (.int .i64 s) w := fun w => by rw [run_max_int2, hs]; rfl
  have hmin : ∀ w, (Builtin.min_ #[3, 3] 3 #[.int .i64 t, .int .i64 1000000]).run Try.prog w = .ok (.int .i64 u) w := fun w => by rw [run_min_int2, hu]; rfl
  have hdy : days (holD D) f t = 0 + cnt (holD D) (u - s).toNat s := by rw [hs, hu]; simp [days]
  rw [← hs] at hge
  have hle : u ≤ 1000000 := by rw [hu]; unfold upTo; split <;> omega
  have Hdy := Lib.hid hdy
  clear hdy hs hu
  go_enter Try.func12, Try.ntmps12
  go_wp2
  clear hmax
  go_loopw [7, 8] (fun c i wr => ∃ n q : Int, c = .int .i64 n ∧ i = .int .i64 q ∧ -1 ≤ q ∧ 0 ≤ n ∧ n ≤ q + 1 ∧ Hid (days (holD D) f t = n + cnt (holD D) (u - q).toNat q) ∧ Below w.heap.size w wr) (fun _ i _ => (u - RowKit.intOf i).toNat)
  case atStart => exact ⟨0, s, rfl, rfl, hge, by omega, by omega, Hdy, Below.refl _ _⟩
  case round =>
    obtain ⟨n, q, rfl, rfl, hq, hn0, hn1, Hq, hbw⟩ := hrel
    have HC := Lib.hid (hc.below hbw)
    by_cases hlt : q < u
    · have hst := cnt_step (holD D) u q hlt
      cases hbb : isB (holD D) (q + 1) with
      | true =>
        rw [hbb] at hst
        have hq2 := Hq.out
        rw [hst] at hq2
        have Hst := Lib.hid hq2
        clear hst Hq hq2
        go_wp2_with (go_at_call 10; refine (is_any _ _ _ _ HC.out).mono ?_; rintro e w1 ⟨rfl, hb1⟩)
        go_roundw
        case rel => exact ⟨n + 1, q + 1, rfl, rfl, by omega, by omega, by omega, Lib.hid (by rw [Hst.out]; simp only [if_true]; omega), hbw.trans (hb1.mono hbw.size)⟩
        case measure => simp [RowKit.intOf]; omega
      | false =>
        rw [hbb] at hst
        have hq2 := Hq.out
        rw [hst] at hq2
        have Hst := Lib.hid hq2
        clear hst Hq hq2
        go_wp2_with (go_at_call 10; refine (is_any _ _ _ _ HC.out).mono ?_; rintro e w1 ⟨rfl, hb1⟩)
        go_roundw
        case rel => exact ⟨n, q + 1, rfl, rfl, by omega, by omega, by omega, Lib.hid (by rw [Hst.out]; simp), hbw.trans (hb1.mono hbw.size)⟩
        case measure => simp [RowKit.intOf]; omega
    · have hst := cnt_end (holD D) u q (by omega)
      have hq2 := Hq.out
      rw [hst, Int.add_zero] at hq2
      have Hst := Lib.hid hq2
      clear hst Hq hq2
      go_wp2
      go_ret
      exact ⟨by rw [Hst.out]; rfl, hbw⟩

end Go.Proofs.Ytfhpiedlhflndaa
