/-
  The Book: copies of texts.
-/
import Derived.Test.YtgbknjpjhkegdaaGreatBookU
import Derived.Test.YtgbknjpjhkegdaaGreatNamG
namespace Go.Proofs.YtgbknjpjhkegdaaGreat
open Go.RowKit Go.Maps Go.WideMaps

set_option maxRecDepth 100000 in
set_option maxHeartbeats 1600000 in
theorem copyT_any (v : Value) (ss : List ByteArray) (w : World) (hv : TextsAt w v ss) (hl : ss.length ≤ 1000000) :
    Calls Tryz.prog 27 #[v] w fun e w' => ∃ v', e = .returned v' ∧ OwnT w' w.heap.size v' ss ∧ Below w.heap.size w w' := by
  obtain ⟨a, c, rfl, _, _, hcs⟩ := hv
  cases a with
  | none =>
    have hss : ss = [] := by
      rcases hcs with h | ⟨b, off, e, _⟩
      · exact h
      · cases e
    subst hss
    clear hcs
    go_enter Tryz.func27, Tryz.ntmps27
    go_wp2
    go_ret
    exact ⟨_, rfl, World.ownsRow_nil _ _ _ _, Below.refl _ _⟩
  | some a =>
    obtain ⟨i0, hi, hz0, hz1, hz2⟩ := info_parts infoT
    have hnews : ∀ j u, (ss.map Value.string)[j]? = some u → w.cell? (a.add j) = some u := fun j u hu => by
      rw [List.getElem?_map] at hu
      cases hj : ss[j]? with
      | none => rw [hj] at hu; cases hu
      | some s =>
        rw [hj] at hu
        injection hu with hu
        obtain ⟨hjl, hjs⟩ := List.getElem?_eq_some_iff.1 hj
        rcases hcs with h | ⟨b, off, e, _, hc⟩
        · rw [h] at hjl; simp at hjl
        · injection e with e
          subst e
          have := hc j hjl
          rw [Addr.add_lit, this, ← hu]
          simp [List.getD, hj]
    obtain ⟨v', w', h1, h2, h3, _, _⟩ := run_append_own_at (P := Tryz.prog) w w.heap.size 22 22 9 i0 (.string ByteArray.empty) 1 16 Tryz.underlying22 hi hz0 hz1 hz2 rfl (by decide) (.slice none 0 0) 0 [] (World.ownsRow_nil _ _ _ _) a ss.length c (ss.map Value.string) (by simp)
      hnews (fun u hu => by simp at hu; obtain ⟨s, _, rfl⟩ := hu; rfl) (by unfold maxLen; omega) (by omega) (Nat.le_refl _)
    have HR := Lib.hid h1
    have HO := Lib.hid (show OwnT w' w.heap.size v' ss by unfold OwnT; rw [Nat.zero_add, List.nil_append] at h2; exact h2)
    have HB := Lib.hid (show Below w.heap.size w w' from (Below.refl _ _).grown h3 (Nat.le_refl _) (ownT_base (World.ownsRow_nil w w.heap.size 9 1)))
    clear h1 h2 h3 hnews hcs hi hz0 hz1 hz2
    go_enter Tryz.func27, Tryz.ntmps27
    go_wp2_with (at_builtin; refine wpListT_append_run rfl _ _ _ _ _ _ rfl rfl rfl HR.out ?_)
    go_ret
    exact ⟨_, rfl, HO.out, HB.out⟩

end Go.Proofs.YtgbknjpjhkegdaaGreat
