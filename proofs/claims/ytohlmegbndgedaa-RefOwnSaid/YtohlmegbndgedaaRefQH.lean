/-
  ref: sorted at accounts; Accounts.
-/
import Derived.Test.YtohlmegbndgedaaRefQG
import Derived.Test.YtohlmegbndgedaaRefK
namespace Go.Proofs.Ytohlmegbndgedaa
open Go.RowKit Go.Maps Go.WideMaps Go.Sort Go.Shelf Held

def AccsCells (xs : List Acc) : List Value := xs.flatMap Acc.cells
theorem AccsCells_len (xs : List Acc) : (AccsCells xs).length = xs.length * 2 := by
  induction xs with
  | nil => rfl
  | cons x r ih => rw [AccsCells, List.flatMap_cons, List.length_append, ← AccsCells, ih, List.length_cons, show x.cells.length = 2 from rfl]; omega
def OwnQ (w : World) (base : Nat) (v : Value) (xs : List Acc) : Prop := w.ownsRow base 40 2 v xs.length (AccsCells xs)
theorem infoQ : (Try.prog.info? 40).map (fun i => (i.zero, i.size, i.bytes)) = some (some (.agg #[.string ByteArray.empty, .string ByteArray.empty]), 2, 32) := by kernel_rfl

theorem appendQ {w : World} {base : Nat} {v : Value} {xs : List Acc} (hown : OwnQ w base v xs) (x : Acc) (g : Nat) (t : TypeId) (hg : w.heap[g]? = some (.cells #[.string x.name, .string x.party] t (0, 0)))
    (hl : xs.length ≤ 2000) (hb : base ≤ w.heap.size) (ty : TypeId) :
    ∃ v' w', (Builtin.append_ #[34, 34] ty #[v, .slice (some ⟨g, 0, none⟩) 1 1]).run Try.prog w = .ok v' w' ∧ OwnQ w' base v' (xs ++ [x]) ∧ Below base w w' := by
  obtain ⟨i0, hi, hz0, hz1, hz2⟩ := info_parts infoQ
  obtain ⟨v', w', h1, h2, h3, _, _⟩ := run_append_own_at (P := Try.prog) w base 34 ty 40 i0 (.agg #[.string ByteArray.empty, .string ByteArray.empty]) 2 32 Try.underlying34 hi hz0 hz1 hz2 rfl (by decide) v xs.length (AccsCells xs) hown ⟨g, 0, none⟩ 1 1 x.cells rfl
    (World.news_of_block hg) (fun u hu => by simp [Acc.cells] at hu; rcases hu with rfl | rfl <;> rfl) (by unfold maxLen; omega) (by omega) hb
  refine ⟨v', w', h1, ?_, (Below.refl _ _).grown h3 hb (own_base hown)⟩
  unfold OwnQ
  rw [List.length_append, show AccsCells (xs ++ [x]) = AccsCells xs ++ x.cells by simp [AccsCells]]
  exact h2

/-- All, in the order of their names. -/
def rowsQ (D : DH) : List Acc := (keysV D).map (getQ D)

theorem keysQ_any (b : Option Nat) (W : World) : Calls Try.prog 56 #[.map b] W fun e w' => e = .returned (.func (.func 67) #[] #[.pointer (some ⟨W.heap.size, 0, none⟩)]) ∧ w' = W.alloc (.cells #[.map b] 58) :=
  (callsIn_wide (n := 5)).1 (AnyZ.keys_in Try.keysA Fence.wide 5 trivial rfl b W)

theorem orderQ_any (b : Option Nat) (D : DH) (W : World) (h : MapO W b D) (hs : Maps.size D ≤ 1000000) (g : Nat) (hg : W.heap.size = g) :
    Calls Try.prog 50 #[.func (.func 67) #[] #[.pointer (some ⟨g, 0, none⟩)]] (W.alloc (.cells #[.map b] 58)) fun e w' =>
      ∃ v, e = .returned v ∧ w'.ownsRow (W.heap.size + 1) 9 1 v (keysL D).length ((keysL D).map encStr) ∧ Below W.heap.size W w' := by
  subst hg
  have hseq : SeqGives Fence.wide 2 Try.prog 67 #[.pointer (some ⟨W.heap.size, 0, none⟩)] encStr (fun ss => ss.Perm (strKeys D)) (Maps.size D) (W.alloc (.cells #[.map b] 58)) := by
    rcases h with ⟨rfl, rfl⟩ | ⟨m, rfl, ho⟩
    · have := AnyZ.keys_gives_nil (ρ := Try.keysA_ren) { Try.keysA with } Fence.wide 2 trivial rfl W.heap.size (W.alloc (.cells #[.map none] 58)) (by simp) (by simp)
      have e : (fun ss : List (List UInt8) => ss.Perm (strKeys (DataW.map [] : DH))) = fun ss => ss = [] := by
        funext ss
        exact propext ⟨fun h => List.Perm.eq_nil h, fun h => by rw [h]; exact List.Perm.refl _⟩
      rw [e]
      exact this
    · exact AnyZ.keys_gives (ρ := Try.keysA_ren) { Try.keysA with } Fence.wide _ trivial rfl (by omega) W.heap.size m _ D _ (by simp) (by simp) (ho.1.alloc _)
  have cS := AnyZ.sorted_in Try.sortedS Fence.wide 5 trivial trivial trivial trivial rfl (by omega) (sortsS _) (enters_of Try.func64 (by kernel_rfl) rfl) 67 #[.pointer (some ⟨W.heap.size, 0, none⟩)] trivial (enters_of Try.func67 (by kernel_rfl) rfl) _ _ (by unfold maxLen; omega) (by omega) _ hseq
  change CallsIn _ _ Try.prog 50 _ _ _ at cS
  refine (callsIn_wide.1 cS).mono ?_
  rintro e w' ⟨v, ss, rfl, hS, hrow, hnil, hb⟩
  have e1 : ss.mergeSort (fun x y => decide (x ≤ y)) = keysL D := mergeSort_of_perm hS
  have e2 : ss.length = (keysL D).length := by rw [hS.length_eq, (keysL_perm D).length_eq]
  rw [e1, e2] at hrow
  refine ⟨v, rfl, ?_, ((Below.refl _ W).alloc (Nat.le_refl _) _).trans (hb.mono (by simp))⟩
  have hz : (W.alloc (.cells #[.map b] 58)).heap.size = W.heap.size + 1 := by simp
  rw [← hz]
  exact hrow

set_option maxRecDepth 100000 in
set_option maxHeartbeats 3200000 in
theorem sortedQ_any (p : Option Nat) (D : DH) (w : World) (h : MapO w p D) (hty : Typed Acc.val D) (hsz : Maps.size D ≤ 1000) (hks : ∀ s, hasV D s = true → s.size ≤ maxLen) :
    Calls Try.prog 43 #[.map p] w fun e w' => ∃ v, e = .returned v ∧ OwnQ w' w.heap.size v (rowsQ D) ∧ Below w.heap.size w w' := by
  have HKY := Lib.hid (orderQ_any p D w h (by omega) w.heap.size rfl)
  have HM := Lib.hid h
  have HT := Lib.hid (fun s => getQ_val hty s)
  have HKS := Lib.hid hks
  have HSZ := Lib.hid hsz
  have hkl := keysV_length D
  have HKL := Lib.hid hkl
  have HTK := Lib.hid h.keys
  clear h hty hsz hks hkl
  go_enter Try.func43, Try.ntmps43
  go_wp2_with fail
  refine (keysQ_any _ _).mono ?_
  rintro e w' ⟨rfl, rfl⟩
  go_wp2_with fail
  refine HKY.out.mono ?_
  rintro e wS ⟨vn, rfl, hrow, hbS⟩
  have HBS := Lib.hid hbS
  obtain ⟨an, cn, rfl, hnc⟩ := names_row hrow rfl
  have HNC := Lib.hid hnc
  obtain ⟨m, hm⟩ : ∃ m, m = (keysV D).length := ⟨_, rfl⟩
  rw [← hm]
  have HMM := Lib.hid hm
  have hml : m ≤ 1000 := by rw [hm, HKL.out]; exact HSZ.out
  clear hrow hbS hnc hm HKY
  go_wp2_with fail
  go_loopw [3, 10] (fun o i wr => ∃ (j : Nat) (x : Value), x = o ∧ i = .int .i64 j ∧ j ≤ m ∧ Hid (OwnQ wr wS.heap.size x (((keysV D).take j).map (getQ D))) ∧ Below wS.heap.size wS wr) (fun _ i _ => (m - RowKit.intOf i).toNat)
  case atStart => exact ⟨0, _, rfl, rfl, Nat.zero_le _, Lib.hid (World.ownsRow_nil _ _ _ _), Below.refl _ _⟩
  case round =>
    obtain ⟨j, x, rfl, rfl, hj, HO, hbw⟩ := hrel
    have HB2 := Lib.hid hbw
    by_cases hjl : j < m
    · have hjlz : (j : Int) < (m : Int) := by omega
      have h2 : j < (keysV D).length := by rw [← HMM.out]; exact hjl
      obtain ⟨g, off, rfl, hgl, x0⟩ : ∃ g off, an = some ⟨g, off, none⟩ ∧ g < wS.heap.size ∧ wS.cell? ⟨g, off + j, none⟩ = some (.string ((keysV D).getD j ByteArray.empty)) := by
        rcases HNC.out with h | ⟨g, off, e, hg, hc⟩
        · rw [h] at h2; simp at h2
        · exact ⟨g, off, e, hg, hc j h2⟩
      rw [← hbw.cell (p := ⟨g, _, none⟩) hgl] at x0
      have hsn : ((keysV D).take (j + 1)).map (getQ D) = ((keysV D).take j).map (getQ D) ++ [getQ D ((keysV D).getD j ByteArray.empty)] := by
        rw [take_snocD ByteArray.empty h2, List.map_append]; rfl
      have hhas : hasV D ((keysV D).getD j ByteArray.empty) = true := (mem_keysV HTK.out _).1 (by rw [show (keysV D).getD j ByteArray.empty = (keysV D)[j] by simp [List.getD, h2]]; exact List.getElem_mem h2)
      obtain ⟨s, hs⟩ : ∃ s, s = (keysV D).getD j ByteArray.empty := ⟨_, rfl⟩
      rw [← hs] at x0 hsn hhas
      have hlk := ((HM.out.below HBS.out).below hbw).look1 Try.underlying58 zeroAccV (HKS.out s hhas)
      rw [HT.out s] at hlk
      obtain ⟨y, hy⟩ : ∃ y, y = getQ D s := ⟨_, rfl⟩
      rw [← hy] at hlk hsn
      have hlen3 : (((keysV D).take j).map (getQ D)).length ≤ 2000 := by rw [List.length_map]; have := List.length_take_le j (keysV D); omega
      obtain ⟨v', w5, hrun, ho5, hb5⟩ := appendQ (World.ownsRow.alloc HO.out (.cells #[.string y.name, .string y.party] 40)) y wr.heap.size 40 (heap_alloc_new _ _) hlen3 (by have := HB2.out.size; simp; omega) 34
      have HR := Lib.hid hrun
      have HO5 := Lib.hid (show OwnQ w5 wS.heap.size v' (((keysV D).take (j + 1)).map (getQ D)) by rw [hsn]; exact ho5)
      have HB5 := Lib.hid ((HB2.out.alloc HB2.out.size (.cells #[.string y.name, .string y.party] 40)).trans hb5)
      clear hs h2 hsn hhas hy hrun ho5 hb5 hbw hlen3
      simp only [Acc.val] at hlk
      go_wp2_with (at_builtin; refine wpList_append_run rfl _ _ _ _ _ _ rfl rfl rfl HR.out ?_)
      go_roundw
      case rel => exact ⟨j + 1, _, rfl, by go_num, by omega, HO5, HB5.out⟩
      case measure => simp [RowKit.intOf]; omega
    · have hjlz : ¬ (j : Int) < (m : Int) := by omega
      obtain rfl : j = m := by omega
      have HFIN := Lib.hid (show OwnQ wr w.heap.size x (rowsQ D) by
        have h := HO.out
        rw [List.take_of_length_le (by rw [← HMM.out]; exact Nat.le_refl _)] at h
        exact own_base_le h HBS.out.size)
      have HBF := Lib.hid (HBS.out.trans (HB2.out.mono HBS.out.size))
      clear hbw
      go_wp2
      go_ret
      exact ⟨_, rfl, HFIN.out, HBF.out⟩

theorem allQ_nil (s : ByteArray) (w : World) : Calls Try.prog 15 #[.pointer none, .string s] w fun e w' => e = .returned (.slice none 0 0) ∧ Below w.heap.size w w' := by
  go_enter Try.func15, Try.ntmps15
  go_wp2
  go_ret
  exact ⟨rfl, by first | exact Below.refl _ _ | exact (Below.refl _ _).alloc (Nat.le_refl _) _⟩

end Go.Proofs.Ytohlmegbndgedaa
