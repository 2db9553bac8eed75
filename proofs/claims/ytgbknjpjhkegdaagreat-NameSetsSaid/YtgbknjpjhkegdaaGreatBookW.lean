/-
  The Book: texts that are lent.
-/
import Derived.Test.YtgbknjpjhkegdaaGreatBookV
namespace Go.Proofs.YtgbknjpjhkegdaaGreat
open Go.RowKit Go.Maps Go.WideMaps

def markB : ByteArray := ⟨#[109, 97, 114, 107]⟩

/-- v reads as ss, and behind it lies the mark. -/
def LentT (w : World) (base : Nat) (v : Value) (ss : List ByteArray) : Prop := ∃ g c, v = .slice (some ⟨g, 0, none⟩) ss.length c ∧ ss.length + 1 ≤ c ∧ w.ownsRow base 9 1 (.slice (some ⟨g, 0, none⟩) (ss.length + 1) c) (ss.length + 1) ((ss ++ [markB]).map Value.string)

theorem lent_of {w : World} {base : Nat} {v : Value} {ss : List ByteArray} (h : OwnT w base v (ss ++ [markB])) : ∃ g c, v = .slice (some ⟨g, 0, none⟩) (ss.length + 1) c ∧ ss.length + 1 ≤ c ∧ LentT w base (.slice (some ⟨g, 0, none⟩) ss.length c) ss := by
  have hl : (ss ++ [markB]).length = ss.length + 1 := by simp
  unfold OwnT at h
  rw [hl] at h
  have h0 := h
  rcases h.2 with ⟨_, h0⟩ | ⟨g, cap, cur, rfl, hb, hg, hn, _⟩
  · omega
  · exact ⟨g, cap, rfl, hn, g, cap, rfl, hn, h0⟩

set_option maxRecDepth 100000 in
theorem append_nil2 (w : World) (ty : TypeId) (c : Nat) : (Builtin.append_ #[22, 22] ty #[.slice none 0 0, .slice none 0 c]).run Tryz.prog w = .ok (.slice none 0 0) w := by
  obtain ⟨i0, hi, hz0, hz1, hz2⟩ := info_parts infoT
  simp [Builtin.append_, run_underlying Tryz.underlying22, go_sem]

set_option maxRecDepth 100000 in
theorem first_run (v : Value) (ss : List ByteArray) (w : World) (hv : TextsAt w v ss) (hl : ss.length ≤ 1000000) :
    ∃ v1 w1, (Builtin.append_ #[22, 22] 22 #[.slice none 0 0, v]).run Tryz.prog w = .ok v1 w1 ∧ OwnT w1 w.heap.size v1 ss ∧ Below w.heap.size w w1 := by
  obtain ⟨a, c, rfl, _, _, hcs⟩ := hv
  cases a with
  | none =>
    have hss : ss = [] := by
      rcases hcs with h | ⟨b, off, e, _⟩
      · exact h
      · cases e
    subst hss
    exact ⟨_, _, append_nil2 w _ c, World.ownsRow_nil _ _ _ _, Below.refl _ _⟩
  | some a =>
    obtain ⟨i0, hi, hz0, hz1, hz2⟩ := info_parts infoT
    have hnews : ∀ j u, (ss.map Value.string)[j]? = some u → w.cell? (a.add j) = some u := fun j u hu => by
      rw [List.getElem?_map] at hu
      cases hj : ss[j]? with
      | none => rw [hj] at hu; cases hu
      | some s =>
        rw [hj] at hu
        injection hu with hu
        obtain ⟨hjl, hjs⟩ := List.getElem?_eq_some_iff.1 hj
        rcases hcs with h | ⟨b, off, e, _, hc⟩
        · rw [h] at hjl; simp at hjl
        · injection e with e
          subst e
          have := hc j hjl
          rw [Addr.add_lit, this, ← hu]
          simp [List.getD, hj]
    obtain ⟨v', w', h1, h2, h3, _, _⟩ := run_append_own_at (P := Tryz.prog) w w.heap.size 22 22 9 i0 (.string ByteArray.empty) 1 16 Tryz.underlying22 hi hz0 hz1 hz2 rfl (by decide) (.slice none 0 0) 0 [] (World.ownsRow_nil _ _ _ _) a ss.length c (ss.map Value.string) (by simp)
      hnews (fun u hu => by simp at hu; obtain ⟨s, _, rfl⟩ := hu; rfl) (by unfold maxLen; omega) (by omega) (Nat.le_refl _)
    exact ⟨v', w', h1, by unfold OwnT; rw [Nat.zero_add, List.nil_append] at h2; exact h2, (Below.refl _ _).grown h3 (Nat.le_refl _) (ownT_base (World.ownsRow_nil w w.heap.size 9 1))⟩

set_option maxRecDepth 100000 in
set_option maxHeartbeats 1600000 in
theorem lentT_any (v : Value) (ss : List ByteArray) (w : World) (hv : TextsAt w v ss) (hl : ss.length ≤ 900000) :
    Calls Tryz.prog 7 #[v] w fun e w' => ∃ v', e = .returned v' ∧ LentT w' w.heap.size v' ss ∧ Below w.heap.size w w' := by
  obtain ⟨v1, w1, hr1, ho1, hb1⟩ := first_run v ss w hv (by omega)
  obtain ⟨v2, w2, hr2, ho2, hb2⟩ := appendT (World.ownsRow.alloc ho1 (.cells #[.string markB] 9)) markB w1.heap.size 9 (heap_alloc_new _ _) (by omega) (by have := hb1.size; simp; omega) 22
  obtain ⟨g, cc, rfl, hcap, hlent⟩ := lent_of ho2
  have HR1 := Lib.hid hr1
  have HR2 := Lib.hid hr2
  have HL := Lib.hid hlent
  have HB := Lib.hid ((hb1.alloc hb1.size (.cells #[.string markB] 9)).trans hb2)
  obtain ⟨a, c, rfl, _, _, _⟩ := hv
  obtain ⟨n, hn⟩ : ∃ n, n = ss.length := ⟨_, rfl⟩
  rw [← hn] at HR1 HR2 hcap hl ⊢
  have HN := Lib.hid hn
  simp only [markB] at HR2
  clear hr1 ho1 hb1 hr2 ho2 hb2 hlent hn
  have hb0 : (0 : Int) ≤ (n : Int) := by omega
  have hb1 : (n : Int) ≤ (cc : Int) := by omega
  go_enter Tryz.func7, Tryz.ntmps7
  go_wp2_with (at_builtin; first
    | (refine wpListT_append_run rfl _ _ _ (.slice none 0 0) (.slice a n c) v1 rfl rfl rfl HR1.out ?_)
    | (refine wpListT_append_run rfl _ _ _ v1 (.slice (some ⟨w1.heap.size, 0, none⟩) 1 1) _ rfl rfl rfl HR2.out ?_))
  go_ret
  exact ⟨_, rfl, by rw [HN.out]; exact HL.out, HB.out⟩

end Go.Proofs.YtgbknjpjhkegdaaGreat
