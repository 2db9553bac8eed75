/-
  name.Own.
-/
import Derived.Test.YtgbknjpjhkegdaaGreatNamG
namespace Go.Proofs.YtgbknjpjhkegdaaGreat
open Go.RowKit Go.Maps Go.WideMaps

def OwnPost (w : World) (s : ByteArray) (ss : List ByteArray) (e : Ending) (w' : World) : Prop :=
  Below w.heap.size w w' ∧ ∃ b m, e = .returned (.agg #[.pointer (some ⟨b, 0, none⟩), .string s]) ∧ w.heap.size ≤ b ∧ w.heap.size ≤ m ∧ m ≠ b ∧ SetAt w' b (some m) (addAll (.map []) ss)

theorem own_any (s : ByteArray) (v : Value) (ss : List ByteArray) (w : World) (hs : s.size ≤ 140737488351232) (hv : TextsAt w v ss) (hl : ss.length ≤ 1000000000000) : Calls Tryz.prog 19 #[.string s, v] w (OwnPost w s ss) := by
  have hB : Below w.heap.size w (w.alloc (.cells #[.pointer none, .string ByteArray.empty] 56)) := (Below.refl _ _).alloc (Nat.le_refl _) _
  have HN := Lib.hid (new_any v ss _ (hv.below hB) hl)
  have HB := Lib.hid hB
  clear hB hv
  go_enter Tryz.func19, Tryz.ntmps19
  go_wp2_with fail
  refine HN.out.mono ?_
  rintro e w1 ⟨hb1, b, m, rfl, hlb, hlm, hmb, hs1⟩
  have hb1' := HB.out.trans (hb1.mono (by simp))
  have hc0 : (w1.cell? ⟨w.heap.size, 0, none⟩) = some (.pointer none) := (hb1.cell (p := ⟨w.heap.size, 0, none⟩) (by simp)).trans (by simp)
  have hc1 : (w1.cell? ⟨w.heap.size, 1, none⟩) = some (.string ByteArray.empty) := (hb1.cell (p := ⟨w.heap.size, 1, none⟩) (by simp)).trans (by simp)
  have hfz : (w1.frozen? ⟨w.heap.size, 0, none⟩) = false := (hb1.frozen (p := ⟨w.heap.size, 0, none⟩) (by simp)).trans (by simp)
  have hfz1 : (w1.frozen? ⟨w.heap.size, 1, none⟩) = false := (hb1.frozen (p := ⟨w.heap.size, 1, none⟩) (by simp)).trans (by simp)
  have HS := Lib.hid hs1
  have HB1 := Lib.hid hb1'
  clear HN HB hs1 hb1 hb1'
  go_wp2_with fail
  refine (clone_any s _ hs).mono ?_
  rintro e w2 ⟨rfl, hb2⟩
  have hlt : w.heap.size < w1.heap.size := by have := HB1.out.size; have h := HS.out.1; simp at hlb; omega
  replace hc0 := (hb2.cell (p := ⟨w.heap.size, 0, none⟩) hlt).trans hc0
  replace hc1 := (hb2.cell (p := ⟨w.heap.size, 1, none⟩) hlt).trans hc1
  replace hfz := (hb2.frozen (p := ⟨w.heap.size, 0, none⟩) hlt).trans hfz
  replace hfz1 := (hb2.frozen (p := ⟨w.heap.size, 1, none⟩) hlt).trans hfz1
  have HS2 := Lib.hid (HS.out.below hb2)
  have HB2 := Lib.hid (HB1.out.trans (hb2.mono HB1.out.size))
  have hne : b ≠ w.heap.size := by simp at hlb; omega
  have hnm : m ≠ w.heap.size := by simp at hlm; omega
  have hgb : w.heap.size ≤ b := by simp at hlb; omega
  have hgm : w.heap.size ≤ m := by simp at hlm; omega
  clear HS HB1 hb2 hlb hlm
  have e0 : ∀ u, (w2.setCell ⟨w.heap.size, 0, none⟩ u).cell? ⟨w.heap.size, 0, none⟩ = some u := fun u => World.cell?_setCell_same' _ _ _ (by rw [hc0]; rfl)
  have e1 : ∀ u u', ((w2.setCell ⟨w.heap.size, 0, none⟩ u).setCell ⟨w.heap.size, 1, none⟩ u').cell? ⟨w.heap.size, 1, none⟩ = some u' := fun u u' => World.cell?_setCell_same' _ _ _ (by rw [World.cell?_setCell_other _ _ _ _ (by simp), hc1]; rfl)
  go_wp2
  refine bodyPost_ret (v := .agg #[.pointer (some ⟨b, 0, none⟩), .string s]) (by simp [results, Tryz.results19, go_sem, e0, e1]) rfl ?_
  refine ⟨(HB2.out.setCell (Nat.le_refl _) _).setCell (Nat.le_refl _) _, b, m, rfl, hgb, hgm, hmb, ?_⟩
  refine HS2.out.turns (S := fun k => k = w.heap.size) ⟨rfl, rfl, rfl, by simp [World.setCell], fun k hk hs => ?_⟩ hne (fun m' h => by obtain rfl := Option.some.inj h; exact hnm)
  rw [Below.heap_setCell _ _ _ _ hs, Below.heap_setCell _ _ _ _ hs]

end Go.Proofs.YtgbknjpjhkegdaaGreat
