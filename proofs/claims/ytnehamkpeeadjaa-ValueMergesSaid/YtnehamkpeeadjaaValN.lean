/-
  A first call whose answer is fixed.
-/
import Derived.Test.YtnehamkpeeadjaaValM
import Derived.Laws.StructEq
namespace Go.Proofs.Ytnehamkpeeadjaa
open Go.RowKit

def stkA : Stk := ⟨⟨#[65]⟩, false, true, 1, 0, 5, 0, 0, 3⟩
def stkB : Stk := ⟨⟨#[66]⟩, false, true, 10, 0, 1, 5000, 0, 100⟩

theorem worth_num (q p c : Int) (h1 : 0 ≤ q) (h2 : 0 ≤ p) (h3 : 0 ≤ c) (h4 : c ≤ 10000) (h5 : q * p ≤ 1152921504606846976) : worthF q p c = (q * p * (10000 - c) / 10000, 0) := by
  have : wrongB q p c = false := by simp [wrongB]; omega
  rw [worthF, this, if_neg (by simp), if_neg (by omega)]

theorem needA : needF 20 5 0 = some 4 := by
  refine needF_some (by decide) (by omega) (by decide) ?_ fun k h1 h2 => ?_
  · rw [worth_num 4 5 0 (by omega) (by omega) (by omega) (by omega) (by omega)]; decide
  · rw [worth_num k 5 0 (by omega) (by omega) (by omega) (by omega) (by omega)]
    show k * 5 * (10000 - 0) / 10000 < 20
    omega

theorem needB : needF 5 1 5000 = some 10 := by
  refine needF_some (by decide) (by omega) (by decide) ?_ fun k h1 h2 => ?_
  · rw [worth_num 10 1 5000 (by omega) (by omega) (by omega) (by omega) (by omega)]; decide
  · rw [worth_num k 1 5000 (by omega) (by omega) (by omega) (by omega) (by omega)]
    show k * 1 * (10000 - 5000) / 10000 < 5
    omega

theorem muchA : muchF 20 stkA = (3, 15) := by
  have e : pickQ 20 stkA = 3 := by
    show ((needF 20 5 0).bind fun n => upF n 1 3).getD (3 - 3 % 1) = 3
    rw [needA]; rfl
  have ew : worthF 3 5 0 = (15, 0) := worth_num 3 5 0 (by omega) (by omega) (by omega) (by omega) (by omega)
  have hw : worthF 3 stkA.price stkA.cut = (15, 0) := ew
  rw [muchF, if_neg (by decide), e, hw, if_neg (by decide)]

theorem muchB : muchF 5 stkB = (10, 5) := by
  have e : pickQ 5 stkB = 10 := by
    show ((needF 5 1 5000).bind fun n => upF n 10 100).getD (100 - 100 % 10) = 10
    rw [needB]; rfl
  have ew : worthF 10 1 5000 = (5, 0) := worth_num 10 1 5000 (by omega) (by omega) (by omega) (by omega) (by omega)
  have hw : worthF 10 stkB.price stkB.cut = (5, 0) := ew
  rw [muchF, if_neg (by decide), e, hw, if_neg (by decide)]

theorem pickAB : pickF 20 [stkA, stkB] = ([(⟨#[65]⟩, 3), (⟨#[66]⟩, 10)], 0) := by
  rw [pickF, if_neg (show ¬ (20 : Int) ≤ 0 by decide), muchA, show (20 : Int) - ((3 : Int), (15 : Int)).2 = 5 from rfl, pickF, if_neg (show ¬ (5 : Int) ≤ 0 by decide), muchB]
  rfl

theorem worthAB : worthAll 0 [stkA, stkB] = (65, 0) := by
  have e1 : worthF stkA.qty stkA.price stkA.cut = (15, 0) := worth_num 3 5 0 (by omega) (by omega) (by omega) (by omega) (by omega)
  have e2 : worthF stkB.qty stkB.price stkB.cut = (50, 0) := worth_num 100 1 5000 (by omega) (by omega) (by omega) (by omega) (by omega)
  rw [worthAll, if_neg (by decide), e1, if_neg (by decide), if_neg (by decide), worthAll, if_neg (by decide), e2, if_neg (by decide), if_neg (by decide)]
  rfl

def abCells : Array Value := #[.string ⟨#[65]⟩, .bool false, .bool true, .int .i64 1, .int .i64 0, .int .i64 5, .int .i64 0, .int .i64 0, .int .i64 3, .string ⟨#[66]⟩, .bool false, .bool true, .int .i64 10, .int .i64 0, .int .i64 1, .int .i64 5000, .int .i64 0, .int .i64 100]

theorem ab_at (w : World) (t : TypeId) : StocksAt (w.alloc (.cells abCells t)) (.slice (some ⟨w.heap.size, 0, none⟩) 2 2) [stkA, stkB] := by
  refine ⟨_, 2, rfl, by simp, fun x hx => ?_, .inr ⟨_, 0, rfl, by simp, fun i j hi hj => ?_⟩⟩
  · simp at hx
    rcases hx with rfl | rfl <;> simp [Stk.wf, stkA, stkB, i64]
  · have hi2 : i = 0 ∨ i = 1 := by simp at hi; omega
    rw [cell_of_row _ _ _ abCells t (0, 0) (heap_alloc_new w _)]
    rcases hi2 with rfl | rfl
    · match j, hj with
      | 0, _ => rfl
      | 1, _ => rfl
      | 2, _ => rfl
      | 3, _ => rfl
      | 4, _ => rfl
      | 5, _ => rfl
      | 6, _ => rfl
      | 7, _ => rfl
      | 8, _ => rfl
    · match j, hj with
      | 0, _ => rfl
      | 1, _ => rfl
      | 2, _ => rfl
      | 3, _ => rfl
      | 4, _ => rfl
      | 5, _ => rfl
      | 6, _ => rfl
      | 7, _ => rfl
      | 8, _ => rfl

theorem ab_at2 (w : World) (t : TypeId) (b : Nat) (hb : w.heap.size = b) : StocksAt (w.alloc (.cells #[.string ⟨#[65]⟩, .bool false, .bool true, .int .i64 1, .int .i64 0, .int .i64 5, .int .i64 0, .int .i64 0, .int .i64 3, .string ⟨#[66]⟩, .bool false, .bool true, .int .i64 10, .int .i64 0, .int .i64 1, .int .i64 5000, .int .i64 0, .int .i64 100] t)) (.slice (some ⟨b, 0, none⟩) 2 2) [stkA, stkB] := by
  subst hb; exact ab_at w t

theorem pl_cell {w : World} {base : Nat} {v : Value} {ps : List (ByteArray × Int)} (h : OwnPl w base v ps) (hne : ps ≠ []) : ∃ g cap, v = .slice (some ⟨g, 0, none⟩) ps.length cap ∧ base ≤ g ∧ g < w.heap.size ∧ ps.length ≤ cap ∧ ∀ i (_ : i < ps.length), w.cell? ⟨g, i * 2, none⟩ = some (.string ps[i].1) ∧ w.cell? ⟨g, i * 2 + 1, none⟩ = some (.int .i64 ps[i].2) := by
  rcases h.2 with ⟨_, h0⟩ | ⟨g, cap, cur, rfl, hb, hg, hn, hc, hs, ht⟩
  · exact absurd (List.eq_nil_of_length_eq_zero h0) hne
  · refine ⟨g, cap, rfl, hb, (Array.getElem?_eq_some_iff.1 hg).1, hn, fun i hi => ?_⟩
    have key : ∀ j u, (plCells ps)[j]? = some u → w.cell? ⟨g, j, none⟩ = some u := fun j u hu => by
      rw [cell_of_row _ _ _ cur _ (0, 0) hg]
      have hj : j < ps.length * 2 := by
        have := (List.getElem?_eq_some_iff.1 hu).1
        rw [plCells_length] at this; exact this
      rw [← ht, List.getElem?_take_of_lt hj, Array.getElem?_toList] at hu
      exact hu
    have hpc : ∀ (l : List (ByteArray × Int)) i (hi : i < l.length), (plCells l)[i * 2]? = some (.string l[i].1) ∧ (plCells l)[i * 2 + 1]? = some (.int .i64 l[i].2) := by
      intro l
      induction l with
      | nil => intro i hi; simp at hi
      | cons p r ih =>
        intro i hi
        have e : plCells (p :: r) = .string p.1 :: .int .i64 p.2 :: plCells r := rfl
        rw [e]
        match i, hi with
        | 0, _ => exact ⟨rfl, rfl⟩
        | i + 1, hi =>
          have hi' : i < r.length := by simpa using hi
          have := ih i hi'
          rw [show (i + 1) * 2 = i * 2 + 1 + 1 by omega]
          simpa using this
    exact ⟨key _ _ (hpc ps i hi).1, key _ _ (hpc ps i hi).2⟩

theorem eq_pl (s t : ByteArray) (q r : Int) (w : World) : (Op.equalIn 10000 36 (.agg #[.string s, .int .i64 q]) (.agg #[.string t, .int .i64 r])).run Try.prog w = .ok (s.toList == t.toList && q == r) w := by
  rw [run_equalIn_agg w 9999 36 _ _ rfl (by kernel_rfl)]
  simp [Program.fieldsOf, Try.underlying36, go_sem]
  by_cases h1 : s.toList = t.toList <;> by_cases h2 : q = r <;> simp [h1, h2]

theorem below3 (w : World) (A B C : Obj) : Below w.heap.size w (((w.alloc A).alloc B).alloc C) := by
  have h1 := (Below.refl w.heap.size w).alloc (Nat.le_refl _) A
  have h2 := h1.alloc h1.size B
  exact h2.alloc h2.size C

theorem old_cells (w : World) (A B C : Obj) (w1 : World) (hb : Below (((w.alloc A).alloc B).alloc C).heap.size (((w.alloc A).alloc B).alloc C) w1) :
    (∀ j, w1.cell? ⟨w.heap.size, j, none⟩ = (w.alloc A).cell? ⟨w.heap.size, j, none⟩) ∧ (∀ j, w1.cell? ⟨w.heap.size + 1, j, none⟩ = ((w.alloc A).alloc B).cell? ⟨w.heap.size + 1, j, none⟩) := by
  refine ⟨fun j => ?_, fun j => ?_⟩
  · rw [hb.cell (p := ⟨w.heap.size, j, none⟩) (by simp; omega)]
    exact cell_al (cell_al rfl (by simp)) (by simp; omega)
  · rw [hb.cell (p := ⟨w.heap.size + 1, j, none⟩) (by simp)]
    exact cell_al rfl (by simp)

set_option maxHeartbeats 1600000 in
theorem alive_any (w : World) : Calls Try.prog 7 #[] w fun e w' => e = .returned (.bool true) ∧ Below w.heap.size w w' := by
  have HP := Lib.hid (fun W v (h : StocksAt W v [stkA, stkB]) => pick_any 20 v [stkA, stkB] W h (by unfold i64; omega))
  have HW := Lib.hid (fun W v (h : StocksAt W v [stkA, stkB]) => worths_any v [stkA, stkB] W h)
  have HPE := Lib.hid pickAB
  rw [worthAB] at HW
  have HE := Lib.hid eq_pl
  go_enter Try.func7, Try.ntmps7
  go_wp2_with fail
  refine (HP.out _ _ (ab_at2 _ _ _ (by simp))).mono ?_
  rintro e w1 ⟨hb1, v, k, rfl, hp⟩
  rcases hp with ⟨h, _⟩ | ⟨_, h, _⟩ | ⟨_, _, hp, rfl⟩
  · omega
  · rw [HPE.out] at h; exact absurd h (by decide)
  rw [HPE.out] at hp
  obtain ⟨g, cap, rfl, hg1, hg2, hcap, hcs⟩ := pl_cell hp (by simp)
  have p0 := (hcs 0 (by simp)).1
  have p1 := (hcs 0 (by simp)).2
  have p2 := (hcs 1 (by simp)).1
  have p3 := (hcs 1 (by simp)).2
  have HPC := Lib.hid (And.intro p0 (And.intro p1 (And.intro p2 p3)))
  have HB1 := Lib.hid (below3 w (.cells #[.string ⟨#[65]⟩, .bool false, .bool true, .int .i64 1, .int .i64 0, .int .i64 5, .int .i64 0, .int .i64 0, .int .i64 3] 27) (.cells #[.string ⟨#[66]⟩, .bool false, .bool true, .int .i64 10, .int .i64 0, .int .i64 1, .int .i64 5000, .int .i64 0, .int .i64 100] 27) (.cells abCells 27))
  have HB2 := Lib.hid (HB1.out.trans (hb1.mono (by simp; omega)))
  obtain ⟨a0, a1⟩ := old_cells w (.cells #[.string ⟨#[65]⟩, .bool false, .bool true, .int .i64 1, .int .i64 0, .int .i64 5, .int .i64 0, .int .i64 0, .int .i64 3] 27) (.cells #[.string ⟨#[66]⟩, .bool false, .bool true, .int .i64 10, .int .i64 0, .int .i64 1, .int .i64 5000, .int .i64 0, .int .i64 100] 27) (.cells abCells 27) w1 hb1
  have x0 := a0 0
  have x1 := a0 1
  have x2 := a0 2
  have x3 := a0 3
  have x4 := a0 4
  have x5 := a0 5
  have x6 := a0 6
  have x7 := a0 7
  have x8 := a0 8
  have y0 := a1 0
  have y1 := a1 1
  have y2 := a1 2
  have y3 := a1 3
  have y4 := a1 4
  have y5 := a1 5
  have y6 := a1 6
  have y7 := a1 7
  have y8 := a1 8
  simp at x0 x1 x2 x3 x4 x5 x6 x7 x8 y0 y1 y2 y3 y4 y5 y6 y7 y8
  clear hb1 hp hcs p0 p1 p2 p3 a0 a1
  go_wp2_with fail
  refine (HW.out _ _ (ab_at2 _ _ _ (by simp))).mono ?_
  rintro e w2 ⟨rfl, hb2⟩
  have hg2' : g < w1.heap.size + 1 := by omega
  have q0 : w2.cell? ⟨g, 0, none⟩ = some (.string ⟨#[65]⟩) := by rw [hb2.cell (p := ⟨g, 0, none⟩) (by simpa using hg2')]; exact cell_al HPC.out.1 hg2
  have q1 : w2.cell? ⟨g, 1, none⟩ = some (.int .i64 3) := by rw [hb2.cell (p := ⟨g, 1, none⟩) (by simpa using hg2')]; exact cell_al HPC.out.2.1 hg2
  have q2 : w2.cell? ⟨g, 2, none⟩ = some (.string ⟨#[66]⟩) := by rw [hb2.cell (p := ⟨g, 2, none⟩) (by simpa using hg2')]; exact cell_al HPC.out.2.2.1 hg2
  have q3 : w2.cell? ⟨g, 3, none⟩ = some (.int .i64 10) := by rw [hb2.cell (p := ⟨g, 3, none⟩) (by simpa using hg2')]; exact cell_al HPC.out.2.2.2 hg2
  have HB3 := Lib.hid ((HB2.out.alloc HB2.out.size _).trans (hb2.mono (by have := HB2.out.size; simp; omega)))
  have he := HE.out
  clear hb2 x0 x1 x2 x3 x4 x5 x6 x7 x8 y0 y1 y2 y3 y4 y5 y6 y7 y8
  go_wp2
  go_ret
  exact ⟨rfl, HB3.out⟩

end Go.Proofs.Ytnehamkpeeadjaa
