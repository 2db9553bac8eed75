/-
  ref: sorted at parties; Parties.
-/
import Derived.Test.YtohlmegbndgedaaRefPG
import Derived.Test.YtohlmegbndgedaaRefK
namespace Go.Proofs.Ytohlmegbndgedaa
open Go.RowKit Go.Maps Go.WideMaps Go.Sort Go.Shelf Held

def PtysCells (xs : List Pty) : List Value := xs.flatMap Pty.cells
theorem PtysCells_len (xs : List Pty) : (PtysCells xs).length = xs.length * 2 := by
  induction xs with
  | nil => rfl
  | cons x r ih => rw [PtysCells, List.flatMap_cons, List.length_append, ← PtysCells, ih, List.length_cons, show x.cells.length = 2 from rfl]; omega
def OwnP (w : World) (base : Nat) (v : Value) (xs : List Pty) : Prop := w.ownsRow base 37 2 v xs.length (PtysCells xs)
theorem infoP : (Try.prog.info? 37).map (fun i => (i.zero, i.size, i.bytes)) = some (some (.agg #[.string ByteArray.empty, .int .i64 0]), 2, 24) := by kernel_rfl

theorem appendP {w : World} {base : Nat} {v : Value} {xs : List Pty} (hown : OwnP w base v xs) (x : Pty) (g : Nat) (t : TypeId) (hg : w.heap[g]? = some (.cells #[.string x.name, .int .i64 x.limit] t (0, 0)))
    (hl : xs.length ≤ 2000) (hb : base ≤ w.heap.size) (ty : TypeId) :
    ∃ v' w', (Builtin.append_ #[33, 33] ty #[v, .slice (some ⟨g, 0, none⟩) 1 1]).run Try.prog w = .ok v' w' ∧ OwnP w' base v' (xs ++ [x]) ∧ Below base w w' := by
  obtain ⟨i0, hi, hz0, hz1, hz2⟩ := info_parts infoP
  obtain ⟨v', w', h1, h2, h3, _, _⟩ := run_append_own_at (P := Try.prog) w base 33 ty 37 i0 (.agg #[.string ByteArray.empty, .int .i64 0]) 2 24 Try.underlying33 hi hz0 hz1 hz2 rfl (by decide) v xs.length (PtysCells xs) hown ⟨g, 0, none⟩ 1 1 x.cells rfl
    (World.news_of_block hg) (fun u hu => by simp [Pty.cells] at hu; rcases hu with rfl | rfl <;> rfl) (by unfold maxLen; omega) (by omega) hb
  refine ⟨v', w', h1, ?_, (Below.refl _ _).grown h3 hb (own_base hown)⟩
  unfold OwnP
  rw [List.length_append, show PtysCells (xs ++ [x]) = PtysCells xs ++ x.cells by simp [PtysCells]]
  exact h2

/-- All, in the order of their names. -/
def rowsP (D : DH) : List Pty := (keysV D).map (getP D)

theorem keysP_any (b : Option Nat) (W : World) : Calls Try.prog 54 #[.map b] W fun e w' => e = .returned (.func (.func 66) #[] #[.pointer (some ⟨W.heap.size, 0, none⟩)]) ∧ w' = W.alloc (.cells #[.map b] 57) :=
  (callsIn_wide (n := 5)).1 (AnyZ.keys_in Try.keysP Fence.wide 5 trivial rfl b W)

theorem orderP_any (b : Option Nat) (D : DH) (W : World) (h : MapO W b D) (hs : Maps.size D ≤ 1000000) (g : Nat) (hg : W.heap.size = g) :
    Calls Try.prog 50 #[.func (.func 66) #[] #[.pointer (some ⟨g, 0, none⟩)]] (W.alloc (.cells #[.map b] 57)) fun e w' =>
      ∃ v, e = .returned v ∧ w'.ownsRow (W.heap.size + 1) 9 1 v (keysL D).length ((keysL D).map encStr) ∧ Below W.heap.size W w' := by
  subst hg
  have hseq : SeqGives Fence.wide 2 Try.prog 66 #[.pointer (some ⟨W.heap.size, 0, none⟩)] encStr (fun ss => ss.Perm (strKeys D)) (Maps.size D) (W.alloc (.cells #[.map b] 57)) := by
    rcases h with ⟨rfl, rfl⟩ | ⟨m, rfl, ho⟩
    · have := AnyZ.keys_gives_nil (ρ := Try.keysP_ren) { Try.keysP with } Fence.wide 2 trivial rfl W.heap.size (W.alloc (.cells #[.map none] 57)) (by simp) (by simp)
      have e : (fun ss : List (List UInt8) => ss.Perm (strKeys (DataW.map [] : DH))) = fun ss => ss = [] := by
        funext ss
        exact propext ⟨fun h => List.Perm.eq_nil h, fun h => by rw [h]; exact List.Perm.refl _⟩
      rw [e]
      exact this
    · exact AnyZ.keys_gives (ρ := Try.keysP_ren) { Try.keysP with } Fence.wide _ trivial rfl (by omega) W.heap.size m _ D _ (by simp) (by simp) (ho.1.alloc _)
  have cS := AnyZ.sorted_in Try.sortedS Fence.wide 5 trivial trivial trivial trivial rfl (by omega) (sortsS _) (enters_of Try.func64 (by kernel_rfl) rfl) 66 #[.pointer (some ⟨W.heap.size, 0, none⟩)] trivial (enters_of Try.func66 (by kernel_rfl) rfl) _ _ (by unfold maxLen; omega) (by omega) _ hseq
  change CallsIn _ _ Try.prog 50 _ _ _ at cS
  refine (callsIn_wide.1 cS).mono ?_
  rintro e w' ⟨v, ss, rfl, hS, hrow, hnil, hb⟩
  have e1 : ss.mergeSort (fun x y => decide (x ≤ y)) = keysL D := mergeSort_of_perm hS
  have e2 : ss.length = (keysL D).length := by rw [hS.length_eq, (keysL_perm D).length_eq]
  rw [e1, e2] at hrow
  refine ⟨v, rfl, ?_, ((Below.refl _ W).alloc (Nat.le_refl _) _).trans (hb.mono (by simp))⟩
  have hz : (W.alloc (.cells #[.map b] 57)).heap.size = W.heap.size + 1 := by simp
  rw [← hz]
  exact hrow

set_option maxRecDepth 100000 in
set_option maxHeartbeats 3200000 in
theorem sortedP_any (p : Option Nat) (D : DH) (w : World) (h : MapO w p D) (hty : Typed Pty.val D) (hsz : Maps.size D ≤ 1000) (hks : ∀ s, hasV D s = true → s.size ≤ maxLen) :
    Calls Try.prog 41 #[.map p] w fun e w' => ∃ v, e = .returned v ∧ OwnP w' w.heap.size v (rowsP D) ∧ Below w.heap.size w w' := by
  have HKY := Lib.hid (orderP_any p D w h (by omega) w.heap.size rfl)
  have HM := Lib.hid h
  have HT := Lib.hid (fun s => getP_val hty s)
  have HKS := Lib.hid hks
  have HSZ := Lib.hid hsz
  have hkl := keysV_length D
  have HKL := Lib.hid hkl
  have HTK := Lib.hid h.keys
  clear h hty hsz hks hkl
  go_enter Try.func41, Try.ntmps41
  go_wp2_with fail
  refine (keysP_any _ _).mono ?_
  rintro e w' ⟨rfl, rfl⟩
  go_wp2_with fail
  refine HKY.out.mono ?_
  rintro e wS ⟨vn, rfl, hrow, hbS⟩
  have HBS := Lib.hid hbS
  obtain ⟨an, cn, rfl, hnc⟩ := names_row hrow rfl
  have HNC := Lib.hid hnc
  obtain ⟨m, hm⟩ : ∃ m, m = (keysV D).length := ⟨_, rfl⟩
  rw [← hm]
  have HMM := Lib.hid hm
  have hml : m ≤ 1000 := by rw [hm, HKL.out]; exact HSZ.out
  clear hrow hbS hnc hm HKY
  go_wp2_with fail
  go_loopw [3, 10] (fun o i wr => ∃ (j : Nat) (x : Value), x = o ∧ i = .int .i64 j ∧ j ≤ m ∧ Hid (OwnP wr wS.heap.size x (((keysV D).take j).map (getP D))) ∧ Below wS.heap.size wS wr) (fun _ i _ => (m - RowKit.intOf i).toNat)
  case atStart => exact ⟨0, _, rfl, rfl, Nat.zero_le _, Lib.hid (World.ownsRow_nil _ _ _ _), Below.refl _ _⟩
  case round =>
    obtain ⟨j, x, rfl, rfl, hj, HO, hbw⟩ := hrel
    have HB2 := Lib.hid hbw
    by_cases hjl : j < m
    · have hjlz : (j : Int) < (m : Int) := by omega
      have h2 : j < (keysV D).length := by rw [← HMM.out]; exact hjl
      obtain ⟨g, off, rfl, hgl, x0⟩ : ∃ g off, an = some ⟨g, off, none⟩ ∧ g < wS.heap.size ∧ wS.cell? ⟨g, off + j, none⟩ = some (.string ((keysV D).getD j ByteArray.empty)) := by
        rcases HNC.out with h | ⟨g, off, e, hg, hc⟩
        · rw [h] at h2; simp at h2
        · exact ⟨g, off, e, hg, hc j h2⟩
      rw [← hbw.cell (p := ⟨g, _, none⟩) hgl] at x0
      have hsn : ((keysV D).take (j + 1)).map (getP D) = ((keysV D).take j).map (getP D) ++ [getP D ((keysV D).getD j ByteArray.empty)] := by
        rw [take_snocD ByteArray.empty h2, List.map_append]; rfl
      have hhas : hasV D ((keysV D).getD j ByteArray.empty) = true := (mem_keysV HTK.out _).1 (by rw [show (keysV D).getD j ByteArray.empty = (keysV D)[j] by simp [List.getD, h2]]; exact List.getElem_mem h2)
      obtain ⟨s, hs⟩ : ∃ s, s = (keysV D).getD j ByteArray.empty := ⟨_, rfl⟩
      rw [← hs] at x0 hsn hhas
      have hlk := ((HM.out.below HBS.out).below hbw).look1 Try.underlying57 zeroPtyV (HKS.out s hhas)
      rw [HT.out s] at hlk
      obtain ⟨y, hy⟩ : ∃ y, y = getP D s := ⟨_, rfl⟩
      rw [← hy] at hlk hsn
      have hlen3 : (((keysV D).take j).map (getP D)).length ≤ 2000 := by rw [List.length_map]; have := List.length_take_le j (keysV D); omega
      obtain ⟨v', w5, hrun, ho5, hb5⟩ := appendP (World.ownsRow.alloc HO.out (.cells #[.string y.name, .int .i64 y.limit] 37)) y wr.heap.size 37 (heap_alloc_new _ _) hlen3 (by have := HB2.out.size; simp; omega) 33
      have HR := Lib.hid hrun
      have HO5 := Lib.hid (show OwnP w5 wS.heap.size v' (((keysV D).take (j + 1)).map (getP D)) by rw [hsn]; exact ho5)
      have HB5 := Lib.hid ((HB2.out.alloc HB2.out.size (.cells #[.string y.name, .int .i64 y.limit] 37)).trans hb5)
      clear hs h2 hsn hhas hy hrun ho5 hb5 hbw hlen3
      simp only [Pty.val] at hlk
      go_wp2_with (at_builtin; refine wpList_append_run rfl _ _ _ _ _ _ rfl rfl rfl HR.out ?_)
      go_roundw
      case rel => exact ⟨j + 1, _, rfl, by go_num, by omega, HO5, HB5.out⟩
      case measure => simp [RowKit.intOf]; omega
    · have hjlz : ¬ (j : Int) < (m : Int) := by omega
      obtain rfl : j = m := by omega
      have HFIN := Lib.hid (show OwnP wr w.heap.size x (rowsP D) by
        have h := HO.out
        rw [List.take_of_length_le (by rw [← HMM.out]; exact Nat.le_refl _)] at h
        exact own_base_le h HBS.out.size)
      have HBF := Lib.hid (HBS.out.trans (HB2.out.mono HBS.out.size))
      clear hbw
      go_wp2
      go_ret
      exact ⟨_, rfl, HFIN.out, HBF.out⟩

theorem allP_nil (w : World) : Calls Try.prog 14 #[.pointer none] w fun e w' => e = .returned (.slice none 0 0) ∧ Below w.heap.size w w' := by
  go_enter Try.func14, Try.ntmps14
  go_wp2
  go_ret
  exact ⟨rfl, by first | exact Below.refl _ _ | exact (Below.refl _ _).alloc (Nat.le_refl _) _⟩

theorem allP_any {R g : Nat} {p q r : Option Nat} {d : Dat} (w : World) (h : RefAt w R g p q r d) (hks : ∀ s, hasV d.p s = true → s.size ≤ maxLen) :
    Calls Try.prog 14 #[.pointer (some ⟨R, 0, none⟩)] w fun e w' => ∃ v, e = .returned v ∧ OwnP w' w.heap.size v (rowsP d.p) ∧ Below w.heap.size w w' := by
  have HS := Lib.hid (sortedP_any p d.p w h.mp h.tp h.sz.1 hks)
  have c1 := h.c1
  clear h hks
  go_enter Try.func14, Try.ntmps14
  go_wp2_with fail
  refine HS.out.mono ?_
  rintro e w' ⟨v, rfl, ho, hb⟩
  go_wp2
  go_ret
  exact ⟨v, rfl, ho, hb⟩

end Go.Proofs.Ytohlmegbndgedaa
