/-
  The Book: texts that were lent stay.
-/
import Derived.Test.YtgbknjpjhkegdaaGreatBookW
namespace Go.Proofs.YtgbknjpjhkegdaaGreat
open Go.RowKit Go.Maps Go.WideMaps

theorem LentT.mark {w : World} {base : Nat} {g c : Nat} {ss : List ByteArray} (h : LentT w base (.slice (some ⟨g, 0, none⟩) ss.length c) ss) : w.cell? ⟨g, ss.length, none⟩ = some (.string markB) ∧ ss.length + 1 ≤ c ∧ g < w.heap.size := by
  obtain ⟨g', c', e, h1, h2⟩ := h
  injection e with e1 _ e3
  injection e1 with e1
  injection e1 with e1 _ _
  subst e1 e3
  refine ⟨?_, h1, (h2.lt g rfl).2⟩
  rw [h2.cellAt ss.length (by omega), List.getElem?_map, List.getElem?_append_right (Nat.le_refl _)]
  simp

set_option maxRecDepth 100000 in
set_option maxHeartbeats 1600000 in
theorem stays_any (u v : Value) (ss : List ByteArray) (base : Nat) (w : World) (hu : LentT w base u ss) (hut : TextsAt w u ss) (hv : TextsAt w v ss) (hl : ss.length ≤ 900000) :
    Calls Tryz.prog 11 #[u, v] w fun e w' => e = .returned (.bool true) ∧ Below w.heap.size w w' := by
  obtain ⟨g, c, rfl, hc, h2⟩ := hu
  obtain ⟨hm, _, hg⟩ := LentT.mark (w := w) (base := base) ⟨g, c, rfl, hc, h2⟩
  have HS := Lib.hid (same_any _ v ss ss w hut hv)
  obtain ⟨n, hn⟩ : ∃ n, n = ss.length := ⟨_, rfl⟩
  rw [← hn] at HS hc hm hl ⊢
  have hb0 : (0 : Int) ≤ (n : Int) + 1 := by omega
  have hb1 : (n : Int) + 1 ≤ (c : Int) := by omega
  simp only [markB] at hm
  clear hn hut hv h2
  go_enter Tryz.func11, Tryz.ntmps11
  go_wp2_with fail
  refine HS.out.mono ?_
  rintro e w1 ⟨he, hb⟩
  have he2 : e = .returned (.bool true) := by rw [he]; simp
  clear he
  subst he2
  rw [← hb.cell (p := ⟨g, n, none⟩) hg] at hm
  go_wp2
  go_ret
  exact ⟨rfl, hb⟩

end Go.Proofs.YtgbknjpjhkegdaaGreat
