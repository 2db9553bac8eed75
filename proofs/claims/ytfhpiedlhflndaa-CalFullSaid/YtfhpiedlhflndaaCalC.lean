/-
  A slice of ints in memory ('IntsAt'); whether one of them is no day (slices.ContainsFunc with Close's test); maps.Clone.
-/
import Derived.Test.YtfhpiedlhflndaaCalB
import Derived.Test.YtfhpiedlhflndaaOpen
import Derived.Shelf.SlMaps.Clone
namespace Go.Proofs.Ytfhpiedlhflndaa
open Go.RowKit Go.Maps CalPure

theorem IntsAt.below {w w' : World} {v : Value} {xs : List Int} (h : IntsAt w v xs) (hb : Below w.heap.size w w') : IntsAt w' v xs := by
  obtain ⟨a, c, h1, h2, h3, h4⟩ := h
  refine ⟨a, c, h1, h2, h3, ?_⟩
  rcases h4 with h4 | ⟨b, off, e, hlt, hc⟩
  · exact .inl h4
  · exact .inr ⟨b, off, e, by have := hb.size; omega, fun j hj => by rw [hb.cell (p := ⟨b, off + j, none⟩) hlt]; exact hc j hj⟩

theorem IntsAt.ne {w : World} {a : Option Addr} {xs : List Int} {k : Nat} (h : xs = [] ∨ ∃ b off, a = some ⟨b, off, none⟩ ∧ b < w.heap.size ∧ ∀ j, j < xs.length → w.cell? ⟨b, off + j, none⟩ = some (.int .i64 (xs.getD j 0))) (hk : k < xs.length) :
    ∃ b off, a = some ⟨b, off, none⟩ ∧ b < w.heap.size ∧ ∀ j, j < xs.length → w.cell? ⟨b, off + j, none⟩ = some (.int .i64 (xs.getD j 0)) := by
  rcases h with h | h
  · subst h; simp at hk
  · exact h

theorem getD_lt {xs : List Int} {j : Nat} (h : j < xs.length) : xs.getD j 0 = xs[j] := by simp [List.getD, h]

def isDayB (d : Int) : Bool := decide (0 ≤ d) && decide (d ≤ 1000000)

theorem test_any (d : Int) (w : World) : Calls Try.prog 19 #[.int .i64 d] w fun e w' => e = .returned (.bool (!isDayB d)) ∧ w = w' := by
  by_cases hd : 0 ≤ d ∧ d ≤ 1000000
  · have hf : isDayB d = true := by simp [isDayB, hd]
    rw [hf]
    go_enter Try.func19, Try.ntmps19
    go_wp2_with (go_at_call 15; refine (day_yes _ _ hd.1 hd.2).mono ?_; rintro e w' ⟨rfl, rfl⟩)
    go_ret
    exact ⟨rfl, rfl⟩
  · have hf : isDayB d = false := by simp [isDayB]; omega
    have hd' : d < 0 ∨ 1000000 < d := by omega
    have Hd := Lib.hid hd'
    rw [hf]
    clear hf hd hd'
    go_enter Try.func19, Try.ntmps19
    go_wp2_with (go_at_call 15; refine (day_no _ _ Hd.out).mono ?_; rintro e w' ⟨rfl, rfl⟩)
    go_ret
    exact ⟨rfl, rfl⟩

set_option maxHeartbeats 400000 in
theorem index_any (v : Value) (xs : List Int) (w : World) (hv : IntsAt w v xs) : Calls Try.prog 24 #[v, .func (.func 19) #[] #[]] w fun e w' => (∃ r : Int, e = .returned (.int .i64 r) ∧ -1 ≤ r ∧ (0 ≤ r ↔ ∃ x ∈ xs, isDayB x = false)) ∧ w = w' := by
  obtain ⟨a, c, rfl, hlen, hwf, hcs⟩ := hv
  obtain ⟨n, hn⟩ : ∃ n, n = xs.length := ⟨_, rfl⟩
  have hlen' : n * 8 ≤ 140737488351232 := by omega
  have HC := Lib.hid hcs
  have HW := Lib.hid hwf
  rw [← hn]
  have HN := Lib.hid hn
  clear hcs hwf hlen hn
  go_enter Try.func24, Try.ntmps24
  go_wp2
  go_loop [5, 8] (fun _ s8 => ∃ kk : Nat, kk ≤ n ∧ s8 = .int .i64 kk ∧ Hid (∀ j, j < kk → isDayB (xs.getD j 0) = true)) (fun _ s8 => (n - RowKit.intOf s8).toNat)
  case atStart => exact ⟨0, Nat.zero_le _, rfl, Lib.hid (fun j hj => absurd hj (Nat.not_lt_zero _))⟩
  case round =>
    obtain ⟨kk, hkk, rfl, A⟩ := hrel
    by_cases hlt : kk < n
    · have hltz : (kk : Int) < (n : Int) := by omega
      obtain ⟨b, off, rfl, hb, hc⟩ := IntsAt.ne HC.out (k := kk) (by rw [← HN.out]; exact hlt)
      have hcell := hc kk (by rw [← HN.out]; exact hlt)
      clear hc hb
      obtain ⟨y, hy⟩ : ∃ y, y = xs.getD kk 0 := ⟨_, rfl⟩
      rw [← hy] at hcell
      have HY := Lib.hid hy
      clear hy
      cases hq : isDayB y with
      | false =>
        have HQ := Lib.hid hq
        clear hq
        go_wp2_with (go_at_call 19; refine (test_any _ _).mono ?_; rintro e w' ⟨rfl, rfl⟩; rw [HQ.out, Bool.not_false])
        go_ret
        refine ⟨⟨kk, rfl, by omega, ?_⟩, rfl⟩
        refine ⟨fun _ => ⟨y, ?_, HQ.out⟩, fun _ => by omega⟩
        rw [HY.out, getD_lt (by rw [← HN.out]; exact hlt)]
        exact List.getElem_mem _
      | true =>
        have HQ := Lib.hid hq
        clear hq
        go_wp2_with (go_at_call 19; refine (test_any _ _).mono ?_; rintro e w' ⟨rfl, rfl⟩; rw [HQ.out, Bool.not_true])
        go_round
        case rel =>
          refine ⟨kk + 1, by omega, by go_num, Lib.hid (fun j hj => ?_)⟩
          by_cases e : j = kk
          · subst e; rw [← HY.out]; exact HQ.out
          · exact A.out j (by omega)
        case measure => simp [RowKit.intOf]; omega
    · have hltz : ¬ (kk : Int) < (n : Int) := by omega
      go_wp2
      go_ret
      refine ⟨⟨-1, rfl, by omega, ?_⟩, rfl⟩
      refine ⟨fun h => by omega, fun ⟨x, hx, hx2⟩ => ?_⟩
      obtain ⟨j, hj, rfl⟩ := List.getElem_of_mem hx
      have := A.out j (by rw [← HN.out] at hj; omega)
      rw [getD_lt hj] at this
      rw [this] at hx2; cases hx2

theorem contains_any (v : Value) (xs : List Int) (w : World) (hv : IntsAt w v xs) : Calls Try.prog 18 #[v, .func (.func 19) #[] #[]] w fun e w' => e = .returned (.bool (xs.any fun x => !isDayB x)) ∧ w = w' := by
  cases hb : xs.any fun x => !isDayB x with
  | true =>
    have hex : ∃ x ∈ xs, isDayB x = false := by simpa using hb
    have Hex := Lib.hid hex
    clear hex hb
    go_enter Try.func18, Try.ntmps18
    go_wp2_with (go_at_call 24; refine (index_any _ _ _ hv).mono ?_; rintro e w' ⟨⟨r, rfl, hr, hiff⟩, rfl⟩; have hr0 := hiff.2 Hex.out; clear hiff)
    go_ret
    exact ⟨rfl, rfl⟩
  | false =>
    have hex : ¬ ∃ x ∈ xs, isDayB x = false := by simpa using hb
    have Hex := Lib.hid hex
    clear hex hb
    go_enter Try.func18, Try.ntmps18
    go_wp2_with (go_at_call 24; refine (index_any _ _ _ hv).mono ?_; rintro e w' ⟨⟨r, rfl, hr, hiff⟩, rfl⟩; have hr0 : decide (0 ≤ r) = false := (by have := mt hiff.1 Hex.out; simpa using this); clear hiff)
    go_ret
    exact ⟨rfl, rfl⟩

theorem clone_nil (w : World) : Calls Try.prog 20 #[.map none] w fun e w' => e = .returned (.map none) ∧ w = w' := by
  have hq := fun w => run_eql_map_nil_sl (P := Try.prog) w 37 _ _ none Try.underlying37
  go_enter Try.func20, Try.ntmps20
  go_wp2
  go_ret
  exact ⟨rfl, rfl⟩

set_option maxHeartbeats 400000 in
theorem clone_any (b n : Nat) (D : DU) (w : World) (hown : w.ownsMap Try.prog 3 (unitElem (H := Unit)) b n D) :
    Calls Try.prog 20 #[.map (some b)] w fun e w' => e = .returned (.map (some w.heap.size)) ∧ w'.ownsMap Try.prog 3 (unitElem (H := Unit)) w.heap.size n D ∧ Below w.heap.size w w' ∧ w.heap.size < w'.heap.size := by
  obtain ⟨es, clock, hb, F, hs, hD⟩ := hown
  have main : Calls Try.prog 20 #[.map (some b)] w fun e w' => e = .returned (.map (some w.heap.size)) ∧ w' = w.alloc (.map es clock) := by
    clear F hs hD
    have hq := fun w => run_eql_map_nil_sl (P := Try.prog) w 37 _ _ (some b) Try.underlying37
    go_enter Try.func20, Try.ntmps20
    go_wp2
    rw [run_callFunc_extern Try.func25 (by kernel_rfl) (by kernel_rfl) (by kernel_rfl) (e := Extern.MapsClone.clone) (by kernel_rfl), run_maps_clone_sl w 37 hb]
    simp only [Result.andThen]
    rw [Oper.upon_value]
    go_wp2
    rw [run_typeAssert_map_sl _ 37 20 _ _ _ Try.underlying37]
    simp only [Result.andThen]
    rw [Oper.upon_value]
    go_wp2
    go_ret
    exact ⟨rfl, rfl⟩
  refine main.mono fun e w' ⟨he, hw⟩ => ?_
  subst hw
  exact ⟨he, ⟨es, clock, (MapKept.heap_alloc w _).1, F, hs, hD⟩, (Below.refl _ w).alloc (Nat.le_refl _) _, by simp⟩

end Go.Proofs.Ytfhpiedlhflndaa
