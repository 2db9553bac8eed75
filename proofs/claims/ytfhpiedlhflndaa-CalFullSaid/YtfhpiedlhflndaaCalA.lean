/-
  A calendar in memory ('CalAt'), and what isDay, Is, Next, Add and Days answer of it, and of a nil one.
-/
import Derived.Test.YtfhpiedlhflndaaRows
import Derived.Test.YtfhpiedlhflndaaCalPure
import Derived.Maps.OwnSet
import Derived.WalkKit
import Derived.WalkSpells
import Derived.WalkLawsBesides
import Derived.IntWalk
import Derived.Lib.SlKeysI
import Derived.Lib.Hide
namespace Go.Proofs.Ytfhpiedlhflndaa
open Go.RowKit Go.Maps CalPure

theorem lawI : Keyed Try.prog 3 := int_keyed Try.underlying3
theorem zeroU (w : World) : (zeroValue 40).run Try.prog w = .ok (.agg #[]) w := by kernel_rfl

abbrev DU := DataW Unit
/-- The holidays of a map's datum. -/
def holD (D : DU) (x : Int) : Bool := Maps.has D (.int .i64 x)

/-- At block b lies a calendar whose holidays are the keys of D. -/
def CalAt (w : World) (b : Nat) (D : DU) : Prop :=
  b < w.heap.size ∧ w.frozen? ⟨b, 0, none⟩ = false ∧ ((w.cell? ⟨b, 0, none⟩ = some (.map none) ∧ D = .map []) ∨ ∃ m n, w.cell? ⟨b, 0, none⟩ = some (.map (some m)) ∧ m < w.heap.size ∧ w.ownsMap Try.prog 3 (unitElem (H := Unit)) m n D)

theorem ownsMap_below {H : Type} {P : Program} {k : TypeId} {R : Value → Option (DataW H × List MemPlace)} {w w' : World} {b n B : Nat} {D : DataW H} (h : w.ownsMap P k R b n D) (hb : Below B w w') (hlt : b < B) : w'.ownsMap P k R b n D := by
  obtain ⟨es, clock, h1, r⟩ := h
  exact ⟨es, clock, (hb.block b hlt).trans h1, r⟩

theorem CalAt.below {w w' : World} {b : Nat} {D : DU} (h : CalAt w b D) (hb : Below w.heap.size w w') : CalAt w' b D := by
  obtain ⟨h1, h2, h3⟩ := h
  have hs := hb.size
  refine ⟨by omega, by rw [hb.frozen (p := ⟨b, 0, none⟩) h1]; exact h2, ?_⟩
  rcases h3 with ⟨c, e⟩ | ⟨m, n, c, hm, ho⟩
  · exact .inl ⟨by rw [hb.cell (p := ⟨b, 0, none⟩) h1]; exact c, e⟩
  · exact .inr ⟨m, n, by rw [hb.cell (p := ⟨b, 0, none⟩) h1]; exact c, by omega, ownsMap_below ho hb hm⟩

theorem day_yes (d : Int) (w : World) (h0 : 0 ≤ d) (h1 : d ≤ 1000000) : Calls Try.prog 15 #[.int .i64 d] w fun e w' => e = .returned (.bool true) ∧ w = w' := by
  go_enter Try.func15, Try.ntmps15
  go_wp2
  go_ret
  exact ⟨rfl, rfl⟩

theorem day_no (d : Int) (w : World) (h : d < 0 ∨ 1000000 < d) : Calls Try.prog 15 #[.int .i64 d] w fun e w' => e = .returned (.bool false) ∧ w = w' := by
  rcases h with h | h
  · go_enter Try.func15, Try.ntmps15
    go_wp2
    go_ret
    exact ⟨rfl, rfl⟩
  · have h0 : 0 ≤ d := by omega
    have h1 : decide (d ≤ 1000000) = false := by simp; omega
    go_enter Try.func15, Try.ntmps15
    go_wp2
    go_ret
    exact ⟨rfl, rfl⟩

theorem wf_day {d : Int} (h0 : 0 ≤ d) (h1 : d ≤ 1000000) : (Lit.int .i64 d).wf = true := WalkArith.wf_i64 (by omega)

theorem is_nil (d : Int) (w : World) : Calls Try.prog 10 #[.pointer none, .int .i64 d] w fun e w' => e = .returned (.bool false) ∧ w = w' := by
  go_enter Try.func10, Try.ntmps10
  go_wp2
  go_ret
  exact ⟨rfl, rfl⟩

set_option maxHeartbeats 400000 in
theorem is_any (b : Nat) (D : DU) (d : Int) (w : World) (hc : CalAt w b D) : Calls Try.prog 10 #[.pointer (some ⟨b, 0, none⟩), .int .i64 d] w fun e w' => e = .returned (.bool (isB (holD D) d)) ∧ Below w.heap.size w w' := by
  obtain ⟨hb, _, hc⟩ := hc
  by_cases hd : 0 ≤ d ∧ d ≤ 1000000
  · obtain ⟨h0, h1⟩ := hd
    by_cases h5 : d % 7 < 5
    · have hfin : isB (holD D) d = !Maps.has D (.int .i64 d) := by simp [isB, holD, h0, h1, h5]
      have Hfin := Lib.hid hfin
      clear hfin
      rcases hc with ⟨c, rfl⟩ | ⟨m, n, c, hm, ho⟩
      · have hrun := look_nil (w := w) true lawI Try.underlying37 (zeroU _) (keyOf_int_mk Try.underlying3 (wf_day h0 h1))
        go_enter Try.func10, Try.ntmps10
        go_wp2_with (go_at_call 15; refine (day_yes _ _ (by omega) (by omega)).mono ?_; rintro e w' ⟨rfl, rfl⟩)
        go_ret
        exact ⟨by rw [Hfin.out]; rfl, (Below.refl _ _).alloc (Nat.le_refl _) _⟩
      · have hkey := keyOf_int_mk Try.underlying3 (wf_day h0 h1)
        go_enter Try.func10, Try.ntmps10
        go_wp2_with (first
          | (go_at_call 15; refine (day_yes _ _ (by omega) (by omega)).mono ?_; rintro e w' ⟨rfl, rfl⟩)
          | (at_lookup; refine wpList_lookup_own_unit _ rfl _ _ 37 rfl 3 40 lawI Try.underlying37 (zeroU _) m n D rfl ho _ _ rfl hkey ?_))
        go_ret
        exact ⟨by rw [Hfin.out]; rfl, (Below.refl _ _).alloc (Nat.le_refl _) _⟩
    · have hfin : isB (holD D) d = false := by simp [isB, h5]
      have Hfin := Lib.hid hfin
      clear hfin
      go_enter Try.func10, Try.ntmps10
      go_wp2_with (go_at_call 15; refine (day_yes _ _ (by omega) (by omega)).mono ?_; rintro e w' ⟨rfl, rfl⟩)
      go_ret
      exact ⟨by rw [Hfin.out]; rfl, Below.refl _ _⟩
  · have hfin : isB (holD D) d = false := by simp [isB]; omega
    have Hfin := Lib.hid hfin
    have hd' : d < 0 ∨ 1000000 < d := by omega
    have Hd := Lib.hid hd'
    clear hfin hd hd'
    go_enter Try.func10, Try.ntmps10
    go_wp2_with (go_at_call 15; refine (day_no _ _ Hd.out).mono ?_; rintro e w' ⟨rfl, rfl⟩)
    go_ret
    exact ⟨by rw [Hfin.out]; rfl, Below.refl _ _⟩

theorem next_nil (d : Int) (w : World) : Calls Try.prog 9 #[.pointer none, .int .i64 d] w fun e w' => e = .returned (.int .i64 (-1)) ∧ w = w' := by
  go_enter Try.func9, Try.ntmps9
  go_wp2
  go_ret
  exact ⟨rfl, rfl⟩

theorem ret_int {k : IntKind} {a b : Int} (h : a = b) : Ending.returned (.int k a) = .returned (.int k b) := by rw [h]

set_option maxHeartbeats 400000 in
theorem next_any (b : Nat) (D : DU) (d : Int) (w : World) (hc : CalAt w b D) : Calls Try.prog 9 #[.pointer (some ⟨b, 0, none⟩), .int .i64 d] w fun e w' => e = .returned (.int .i64 (next (holD D) d)) ∧ Below w.heap.size w w' := by
  have hge := from1_ge d
  obtain ⟨s, hs⟩ : ∃ s, s = from1 d := ⟨_, rfl⟩
  have hmax : ∀ w, (Builtin.max_ #[3, 3] 3 #[.int .i64 d, .int .i64 (-1)]).run Try.prog w = .ok (.int .i64 s) w := fun w => by rw [run_max_int2, hs]; rfl
  have hnx : next (holD D) d = nxt (holD D) (1000000 - s).toNat s := by rw [hs]; rfl
  rw [← hs] at hge
  have Hnx := Lib.hid hnx
  clear hnx hs
  go_enter Try.func9, Try.ntmps9
  go_wp2
  clear hmax
  go_loopw [1] (fun i wr => ∃ q : Int, i = .int .i64 q ∧ -1 ≤ q ∧ Hid (next (holD D) d = nxt (holD D) (1000000 - q).toNat q) ∧ Below w.heap.size w wr) (fun i _ => (1000000 - RowKit.intOf i).toNat)
  case atStart => exact ⟨s, rfl, hge, Hnx, Below.refl _ _⟩
  case round =>
    obtain ⟨q, rfl, hq, Hq, hbw⟩ := hrel
    have hcr := hc.below hbw
    have HC := Lib.hid hcr
    clear hcr
    by_cases hlt : q < 1000000
    · have hst := nxt_step (holD D) q hlt
      rw [← Hq.out] at hst
      cases hbb : isB (holD D) (q + 1) with
      | true =>
        rw [hbb] at hst
        have Hst := Lib.hid hst
        clear hst Hq
        go_wp2_with (go_at_call 10; refine (is_any _ _ _ _ HC.out).mono ?_; rintro e w1 ⟨rfl, hb1⟩)
        go_ret
        exact ⟨by rw [Hst.out]; rfl, hbw.trans (hb1.mono hbw.size)⟩
      | false =>
        rw [hbb] at hst
        have Hst := Lib.hid hst
        clear hst Hq
        go_wp2_with (go_at_call 10; refine (is_any _ _ _ _ HC.out).mono ?_; rintro e w1 ⟨rfl, hb1⟩)
        go_roundw
        case rel => exact ⟨q + 1, rfl, by omega, Hst, hbw.trans (hb1.mono hbw.size)⟩
        case measure => simp [RowKit.intOf]; omega
    · have hst := nxt_end (holD D) q (by omega)
      rw [← Hq.out] at hst
      have Hst := Lib.hid hst
      clear hst Hq
      go_wp2
      go_ret
      exact ⟨by rw [Hst.out]; rfl, hbw⟩

end Go.Proofs.Ytfhpiedlhflndaa
