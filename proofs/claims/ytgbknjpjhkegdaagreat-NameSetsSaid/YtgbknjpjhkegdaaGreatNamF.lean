/-
  What short and SameTexts answer.
-/
import Derived.Test.YtgbknjpjhkegdaaGreatNamE
import Derived.Deep.QuietTactic
import Derived.BigQuiet
namespace Go.Proofs.YtgbknjpjhkegdaaGreat
open Go.RowKit Go.Maps Go.WideMaps

def roomOne (l x : Int) : Int := if l < 0 then -1 else if l < x then -1 else l - x
def roomAll (r : Int) : List ByteArray → Int
  | [] => r
  | s :: rest => if r < 0 then r else roomAll (roomOne r s.size) rest
def shortB (few room : Int) (ss : List ByteArray) : Bool := decide ((ss.length : Int) ≤ few) && decide (0 ≤ roomAll room ss)

theorem roomOne_bd {l x : Int} (h0 : 0 ≤ x) (_ : -1 ≤ l) : -1 ≤ roomOne l x ∧ roomOne l x ≤ l ∨ roomOne l x = -1 := by
  unfold roomOne; split
  · exact .inr rfl
  · split
    · exact .inr rfl
    · left; omega
theorem roomAll_neg {r : Int} (h : r < 0) : ∀ ss, roomAll r ss = r
  | [] => rfl
  | _ :: _ => by unfold roomAll; rw [if_pos h]
theorem roomAll_fit : ∀ (ss : List ByteArray) (r : Int), 0 ≤ roomAll r ss → ∀ s ∈ ss, (s.size : Int) ≤ r
  | [], _, _, _, hs => by cases hs
  | x :: ss, r, h, s, hs => by
    unfold roomAll at h
    split at h
    · omega
    · rename_i hr
      have hx : ¬ r < (x.size : Int) := fun hx => by
        have e : roomOne r x.size = -1 := by unfold roomOne; rw [if_neg hr, if_pos hx]
        rw [e, roomAll_neg (by omega)] at h
        omega
      have e : roomOne r x.size = r - x.size := by unfold roomOne; rw [if_neg hr, if_neg hx]
      rw [e] at h
      rcases List.mem_cons.1 hs with rfl | hs
      · omega
      · have := roomAll_fit ss _ h s hs
        omega
theorem short_fit {few room : Int} {ss : List ByteArray} (h : shortB few room ss = true) : (ss.length : Int) ≤ few ∧ ∀ s ∈ ss, (s.size : Int) ≤ room := by
  simp only [shortB, Bool.and_eq_true, decide_eq_true_eq] at h
  exact ⟨h.1, roomAll_fit ss room h.2⟩

set_option maxHeartbeats 400000 in
theorem room_any (g : Nat) (l x : Int) (w : World) (hc : w.cell? ⟨g, 0, none⟩ = some (.int .i64 x)) (h0 : 0 ≤ x) (h1 : x ≤ 140737488351232) (h2 : 0 ≤ l) (h3 : l ≤ 140737488351232) :
    Calls Tryz.prog 100 #[.int .i64 l, .slice (some ⟨g, 0, none⟩) 1 1] w fun e w' => e = .returned (.int .i64 (roomOne l x)) ∧ w = w' := by
  by_cases hx : l < x
  · have hr : roomOne l x = -1 := by unfold roomOne; rw [if_neg (by omega), if_pos hx]
    rw [hr]
    clear hr
    go_enter Tryz.func100, Tryz.ntmps100
    go_wp2
    go_loop [0, 5] (fun s i => s = .int .i64 l ∧ i = .int .i64 0) (fun _ _ => 0)
    case atStart => exact ⟨rfl, rfl⟩
    case round =>
      obtain ⟨rfl, rfl⟩ := hrel
      go_wp2
      go_ret
      exact ⟨rfl, rfl⟩
  · have hr : roomOne l x = l - x := by unfold roomOne; rw [if_neg (by omega), if_neg hx]
    rw [hr]
    have hx2 : decide (l < x) = false := by simpa using hx
    clear hr
    go_enter Tryz.func100, Tryz.ntmps100
    go_wp2
    go_loop [0, 5] (fun s i => (s = .int .i64 l ∧ i = .int .i64 0) ∨ (s = .int .i64 (l - x) ∧ i = .int .i64 1)) (fun _ i => (1 - RowKit.intOf i).toNat)
    case atStart => exact .inl ⟨rfl, rfl⟩
    case round =>
      rcases hrel with ⟨rfl, rfl⟩ | ⟨rfl, rfl⟩
      · go_wp2
        go_round
        case rel => exact .inr ⟨rfl, rfl⟩
        case measure => simp [RowKit.intOf]
      · go_wp2
        go_ret
        exact ⟨rfl, rfl⟩

theorem drop_cons {ss : List ByteArray} {k : Nat} (h : k < ss.length) : ss.drop k = ss.getD k ByteArray.empty :: ss.drop (k + 1) := by
  rw [getD_lt h]; exact List.drop_eq_getElem_cons h

set_option maxHeartbeats 800000 in
theorem short_any (few room : Int) (v : Value) (ss : List ByteArray) (w : World) (hv : TextsAt w v ss) (hr0 : 0 ≤ room) (hr1 : room ≤ 1000000) :
    Calls Tryz.prog 26 #[.int .i64 few, .int .i64 room, v] w fun e w' => e = .returned (.bool (shortB few room ss)) ∧ Below w.heap.size w w' := by
  obtain ⟨a, c, rfl, hlen, hss, hcs⟩ := hv
  obtain ⟨n, hn⟩ : ∃ n, n = ss.length := ⟨_, rfl⟩
  rw [← hn] at hlen ⊢
  by_cases hf : (n : Int) ≤ few
  · have hs : shortB few room ss = decide (0 ≤ roomAll room ss) := by simp [shortB, ← hn, hf]
    rw [hs]
    have HX := Lib.hid hcs
    have HW := Lib.hid hss
    have HN := Lib.hid hn
    clear hcs hss hn hs
    go_enter Tryz.func26, Tryz.ntmps26
    go_wp2
    go_loopw [1, 7] (fun s i wr => ∃ (r : Int) (k : Nat), s = .int .i64 r ∧ i = .int .i64 k ∧ k ≤ n ∧ -1 ≤ r ∧ r ≤ 1000000 ∧ Hid (roomAll room ss = roomAll r (ss.drop k)) ∧ Below w.heap.size w wr) (fun _ i _ => (n - RowKit.intOf i).toNat)
    case atStart => exact ⟨room, 0, rfl, rfl, Nat.zero_le _, by omega, hr1, Lib.hid rfl, Below.refl _ _⟩
    case round =>
      obtain ⟨r, k, rfl, rfl, hk, hr2, hr3, Hr, hbw⟩ := hrel
      by_cases hlt : k < n
      · have hltz : (k : Int) < (n : Int) := by omega
        by_cases hneg : r < 0
        · have hfin : decide (0 ≤ roomAll room ss) = false := by rw [Hr.out, roomAll_neg hneg]; simp; omega
          have hd : decide (0 ≤ r) = false := by simp; omega
          have HF := Lib.hid hfin
          clear hfin
          go_wp2
          go_ret
          exact ⟨by rw [HF.out]; rfl, hbw⟩
        · obtain ⟨b2, off, rfl, hb2, hc2⟩ := TextsAt.ne HX.out (k := k) (by rw [← HN.out]; exact hlt)
          have hcell := hc2 k (by rw [← HN.out]; exact hlt)
          rw [← hbw.cell (p := ⟨b2, off + k, none⟩) hb2] at hcell
          have hsz := HW.out _ (List.getElem_mem (by rw [← HN.out]; exact hlt) : ss[k]'(by rw [← HN.out]; exact hlt) ∈ ss)
          rw [← getD_lt] at hsz
          have hst := Hr.out
          rw [drop_cons (by rw [← HN.out]; exact hlt)] at hst
          obtain ⟨y, hy⟩ : ∃ y, y = ss.getD k ByteArray.empty := ⟨_, rfl⟩
          rw [← hy] at hcell hst hsz
          have hst2 : roomAll room ss = roomAll (roomOne r y.size) (ss.drop (k + 1)) := by
            rw [hst]; show (if r < 0 then r else _) = _; rw [if_neg hneg]
          have hbd := roomOne_bd (x := y.size) (by omega) hr2
          have HST := Lib.hid hst2
          have HBD := Lib.hid hbd
          have hr0' : 0 ≤ r := by omega
          clear hc2 hb2 hy hst hst2 hbd hneg Hr
          go_wp2_with (go_at_call 100; refine (room_any _ r (y.size : Int) _ (by simp) (by omega) (by omega) (by omega) (by omega)).mono ?_; rintro e w2 ⟨rfl, rfl⟩)
          go_roundw
          case rel => exact ⟨roomOne r y.size, k + 1, rfl, by go_num, by omega, by have := HBD.out; omega, by have := HBD.out; omega, HST, hbw.alloc hbw.size _⟩
          case measure => simp [RowKit.intOf]; omega
      · have hltz : ¬ (k : Int) < (n : Int) := by omega
        have hst : decide (0 ≤ roomAll room ss) = decide (0 ≤ r) := by
          rw [Hr.out, List.drop_of_length_le (by rw [← HN.out]; omega)]; rfl
        have HST := Lib.hid hst
        clear hst Hr
        go_wp2
        go_ret
        exact ⟨by rw [HST.out]; rfl, hbw⟩
  · have hs : shortB few room ss = false := by simp [shortB, ← hn]; intro h; exact absurd h hf
    have hf2 : few < (n : Int) := by omega
    rw [hs]
    clear hcs hss hn hs hf
    go_enter Tryz.func26, Tryz.ntmps26
    go_wp2
    go_ret
    exact ⟨rfl, Below.refl _ _⟩

theorem shorts_any (v : Value) (ss : List ByteArray) (w : World) (hv : TextsAt w v ss) :
    Calls Tryz.prog 5 #[v] w fun e w' => e = .returned (.bool (shortB 300 9000 ss)) ∧ Below w.heap.size w w' := by
  go_enter Tryz.func5, Tryz.ntmps5
  go_wp2_with (go_at_call 26; refine (short_any _ _ _ _ _ hv (by omega) (by omega)).mono ?_; rintro e w2 ⟨rfl, hb⟩)
  go_ret
  exact ⟨rfl, hb⟩

end Go.Proofs.YtgbknjpjhkegdaaGreat
