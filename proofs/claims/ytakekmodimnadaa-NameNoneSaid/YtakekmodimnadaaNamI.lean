/-
  The walk of NameNone.
-/
import Derived.Test.YtakekmodimnadaaNamH
import Derived.Deep.RegionHeld3
namespace Go.Proofs.Ytakekmodimnadaa
open Go.RowKit Go.Maps Go.WideMaps

set_option maxHeartbeats 1600000 in
theorem NameNone_walk (v : Value) (ss : List ByteArray) (w : World) (hv : TextsAt w v ss) :
    Calls Try.prog 5 #[v] w fun e w' => e = .returned (.bool true) ∧ Below w.heap.size w w' := by
  have HS := Lib.hid (shorts_any v ss w hv)
  cases hb : shortB 300 9000 ss with
  | false =>
    have HB := Lib.hid hb
    clear hb hv
    go_enter Try.func5, Try.ntmps5
    go_wp2_with (first
      | (go_at_call 8; refine HS.out.mono ?_; rintro e w1 ⟨rfl, hb1⟩; rw [HB.out])
      | (go_at_call 9; refine (alive_any _).mono ?_; rintro e w2 ⟨rfl, hb2⟩))
    go_ret
    exact ⟨rfl, hb1.trans (hb2.mono hb1.size)⟩
  | true =>
    have HB := Lib.hid hb
    clear hb hv
    go_enter Try.func5, Try.ntmps5
    go_wp2_with (first
      | (go_at_call 8; refine HS.out.mono ?_; rintro e w1 ⟨rfl, hb1⟩; rw [HB.out]))
    go_region_held3 (fun w' => w'.cell? ⟨w1.heap.size, 0, none⟩ = some (.pointer none)) (first | assumption | go_keep)
      (first
        | (go_at_call 9; refine (alive_any _).mono ?_; rintro e w2 ⟨rfl, hb2⟩; have hcell : w2.cell? ⟨w1.heap.size, 0, none⟩ = some (.pointer none) := (hb2.cell (p := ⟨w1.heap.size, 0, none⟩) (by simp)).trans (by simp))
        | (go_at_call 14; refine (add_nil _ _).mono ?_; rintro e w' ⟨rfl, rfl⟩)
        | (go_at_call 15; refine (del_nil _ _).mono ?_; rintro e w' ⟨rfl, rfl⟩)
        | (go_at_call 16; refine (len_nil _).mono ?_; rintro e w' ⟨rfl, rfl⟩)
        | (go_at_call 17; refine (list_nil _).mono ?_; rintro e w' ⟨rfl, rfl⟩)
        | (go_at_call 18; refine (has_nil _ _).mono ?_; rintro e w' ⟨rfl, rfl⟩))
    go_wp2
    go_ret
    exact ⟨rfl, hb1.trans ((((Below.refl _ _).alloc (Nat.le_refl _) _).drew.trans (hb2.mono (by simp))).mono hb1.size)⟩

end Go.Proofs.Ytakekmodimnadaa
