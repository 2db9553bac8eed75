/-
  The Book: lists of texts hold their marks.
-/
import Derived.Test.YtgbknjpjhkegdaaGreatTxD
namespace Go.Proofs.YtgbknjpjhkegdaaGreat
open Go.RowKit Go.Maps Go.WideMaps
set_option linter.unusedVariables false

theorem markedT_at {base bk : Nat} {w : World} {ov : Value} {O : List (Value × List ByteArray)} (h : Lists csT 9 1 22 base bk w ov O) (hl : ∀ x ∈ O, x.2.length ≤ 400000) (hm : MarkedBelow bname O O.length) {k : Nat} (hk : k < O.length) :
    ∃ g cap a m c, ov = .slice (some ⟨g, 0, none⟩) O.length cap ∧ O.length ≤ cap ∧ g < w.heap.size ∧ w.cell? ⟨g, k, none⟩ = some (.slice a m c) ∧ m ≤ 400000 ∧ OwnT w base (.slice a m c) (marksT k 0 m) := by
  obtain ⟨g, cap, e1, h1, _, h2, _, h3⟩ := h.head (by omega)
  have hx : O[k]? = some O[k] := List.getElem?_eq_getElem hk
  have ho := h.each _ (List.getElem_mem hk)
  have he := hm k _ hk hx
  obtain ⟨a, c, e⟩ := own_form ho
  refine ⟨g, cap, a, _, c, e1, h1, h2, by rw [h3 k _ hx, e], hl _ (List.getElem_mem hk), ?_⟩
  rw [marksT_eq, ← he, ← e]
  exact ownT_flat.2 ho

set_option maxRecDepth 100000 in
set_option maxHeartbeats 1600000 in
theorem markedT_any (base bk : Nat) (O : List (Value × List ByteArray)) (ov : Value) (w : World) (hk : Lists csT 9 1 22 base bk w ov O) (hn : O.length ≤ 900) (hl : ∀ x ∈ O, x.2.length ≤ 400000) (hm : MarkedBelow bname O O.length) :
    Calls Tryz.prog 80 #[ov] w fun e w' => e = .returned (.bool true) ∧ Below w.heap.size w w' := by
  have HA := Lib.hid (fun k => markedT_at (k := k) hk hl hm)
  obtain ⟨an, cn, hform⟩ := own_form hk.row
  obtain ⟨n, hN⟩ : ∃ n, n = O.length := ⟨_, rfl⟩
  rw [← hN] at hform hn
  have HN := Lib.hid hN
  clear hk hl hN hm
  subst hform
  go_enter Tryz.func80, Tryz.ntmps80
  go_wp2
  go_loopw [3] (fun i wr => ∃ k : Nat, i = .int .i64 k ∧ k ≤ n ∧ Hid (Below w.heap.size w wr)) (fun i _ => (n - RowKit.intOf i).toNat)
  case atStart => exact ⟨0, rfl, Nat.zero_le _, Lib.hid (Below.refl _ _)⟩
  case round =>
    obtain ⟨k, rfl, hk, HB⟩ := hrel
    by_cases hlt : k < n
    · have hltz : (k : Int) < (n : Int) := by omega
      have hk0 : (0 : Int) ≤ (k : Int) := by omega
      obtain ⟨g, cap, a, m, c, e1, hcap, hg, x0, hm4, ho⟩ := HA.out k (by rw [← HN.out]; exact hlt)
      injection e1 with e1 e2 e3
      subst e1 e3
      clear e2
      rw [← HN.out] at hcap
      have HX := Lib.hid (fun W (hb : Below w.heap.size w W) => (hb.cell (p := ⟨g, k, none⟩) hg).trans x0)
      have HMK := Lib.hid (fun W => markT_any k 0 m W (by omega) (by omega) hm4)
      have HZ : ((0 : Nat) : Int) = 0 := rfl
      rw [HZ] at HMK
      have HSM : Hid (∀ (W w1 : World) (mv : Value), Below w.heap.size w w1 → OwnT w1 W.heap.size mv (marksT k 0 m) → Calls Tryz.prog 9 #[.slice a m c, mv] w1 fun e w' => e = .returned (.bool true) ∧ Below w1.heap.size w1 w') := Lib.hid (fun W w1 mv hb hmv =>
        (same_any (.slice a m c) mv (marksT k 0 m) (marksT k 0 m) w1 (TextsAt.below (ownT_texts ho (by rw [marksT_len]; omega) (marksT_size _ _ _)) hb) (ownT_texts hmv (by rw [marksT_len]; omega) (marksT_size _ _ _))).mono fun e w' h => ⟨by rw [h.1]; simp, h.2⟩)
      have y0 := HX.out wr HB.out
      clear x0 hg ho HA
      go_wp2_with fail
      go_region_held3 (fun w' => w'.cell? ⟨g, k, none⟩ = some (.slice a m c)) (first | exact y0 | exact HX.out _ hB1 | exact HX.out _ hB2)
        (first
          | (go_at_call 122; refine (HMK.out _).mono ?_; rintro e w1 ⟨mv, rfl, hmv, hbm⟩; have hB1 : Below w.heap.size w w1 := HB.out.drew.trans (hbm.mono HB.out.size))
          | (go_at_call 9; refine (HSM.out _ _ _ hB1 hmv).mono ?_; rintro e w2 ⟨rfl, hb2⟩; have hB2 : Below w.heap.size w w2 := hB1.trans (hb2.mono hB1.size)))
      all_goals
        have HB2 := Lib.hid hB2
        clear hmv hbm hB1 hb2 hB2 HX HMK HSM
        go_wp2_with fail
        go_roundw
        case rel => exact ⟨k + 1, by go_num, by omega, HB2⟩
        case measure => simp [RowKit.intOf]; omega
    · have hltz : ¬ (k : Int) < (n : Int) := by omega
      go_wp2
      go_ret
      exact ⟨rfl, HB.out⟩
end Go.Proofs.YtgbknjpjhkegdaaGreat
