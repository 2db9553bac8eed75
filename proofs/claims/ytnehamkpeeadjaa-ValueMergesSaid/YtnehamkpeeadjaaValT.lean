/-
  The walk of value.Merge.
-/
import Derived.Test.YtnehamkpeeadjaaValS
import Derived.Test.YtnehamkpeeadjaaIter2P
import Derived.Shelf.AbstractIn
namespace Go.Proofs.Ytnehamkpeeadjaa
open Go.RowKit Go.Maps Go.WideMaps Go.Sort Go.Shelf Held

theorem sortsS (m : Nat) : AnyZ.SortsIn Try.prog Try.sortedS_ren Fence.wide m :=
  ⟨fun blk off cap ss W hH hblk hsz => callsIn_wide.2 (AnyM.slices_Sort_string Try.sortS blk off cap ss W hH hblk hsz),
   fun p cap W => callsIn_wide.2 (AnyM.slices_Sort_string_none Try.sortS p cap W)⟩

theorem keys_any (b : Nat) (W : World) : Calls Try.prog 21 #[.map (some b)] W fun e w' => e = .returned (.func (.func 29) #[] #[.pointer (some ⟨W.heap.size, 0, none⟩)]) ∧ w' = W.alloc (.cells #[.map (some b)] 56) :=
  (callsIn_wide (n := 5)).1 (AnyZ.keys_in Try.keysM Fence.wide 5 trivial rfl (some b) W)

theorem sorted_any (b : Nat) (D : DH) (W : World) (h : MapH Try.prog 9 W b D) (hs : Maps.size D ≤ 1000000) (g : Nat) (hg : W.heap.size = g) :
    Calls Try.prog 20 #[.func (.func 29) #[] #[.pointer (some ⟨g, 0, none⟩)]] (W.alloc (.cells #[.map (some b)] 56)) fun e w' =>
      ∃ v, e = .returned v ∧ w'.ownsRow (W.heap.size + 1) 9 1 v (keysL D).length ((keysL D).map encStr) ∧ Below W.heap.size W w' := by
  subst hg
  have hseq : SeqGives Fence.wide 2 Try.prog 29 #[.pointer (some ⟨W.heap.size, 0, none⟩)] encStr (fun ss => ss.Perm (strKeys D)) (Maps.size D) (W.alloc (.cells #[.map (some b)] 56)) :=
    AnyZ.keys_gives (ρ := Try.keysM_ren) { Try.keysM with } Fence.wide _ trivial rfl (by omega) W.heap.size b _ D _ (by simp) (by simp) (h.1.alloc _)
  have cS := AnyZ.sorted_in Try.sortedS Fence.wide 5 trivial trivial trivial trivial rfl (by omega) (sortsS _) (enters_of Try.func28 (by kernel_rfl) rfl) 29 #[.pointer (some ⟨W.heap.size, 0, none⟩)] trivial (enters_of Try.func29 (by kernel_rfl) rfl) _ _ (by unfold maxLen; omega) (by omega) _ hseq
  change CallsIn _ _ Try.prog 20 _ _ _ at cS
  refine (callsIn_wide.1 cS).mono ?_
  rintro e w' ⟨v, ss, rfl, hS, hrow, hnil, hb⟩
  have e1 : ss.mergeSort (fun x y => decide (x ≤ y)) = keysL D := mergeSort_of_perm hS
  have e2 : ss.length = (keysL D).length := by rw [hS.length_eq, (keysL_perm D).length_eq]
  rw [e1, e2] at hrow
  refine ⟨v, rfl, ?_, ((Below.refl _ W).alloc (Nat.le_refl _) _).trans (hb.mono (by simp))⟩
  have hz : (W.alloc (.cells #[.map (some b)] 56)).heap.size = W.heap.size + 1 := by simp
  rw [← hz]
  exact hrow

theorem wp_append_run {P : Program} {w w' : World} {o : Oper} {a : Act} {K : Act → World → Prop} {Q : Exit → Act → World → Prop} (s x : Operand) (t : TypeId) (v u v' : Value)
    (ho : o.op = .call { callee := .builtin .append, args := #[s, x], argTypes := #[t, t] }) (hs : a.eval s = v) (hx : a.eval x = u)
    (hrun : (Builtin.append_ #[t, t] o.type #[v, u]).run P w = .ok v' w') (h : K (a.put o.dst v') w') : o.wp P a w K Q := by
  unfold Oper.wp execOp
  simp only [ho, resolve, invoke, builtin, Sem.run_bind, Sem.run_pure, Result.andThen_ok, List.map_toArray, List.map_cons, List.map_nil, hs, hx, hrun]
  exact h

theorem step_group {w : World} {ops : Array Oper} {o : Oper} {a : Act} {K : Act → World → Prop} {Q : Exit → Act → World → Prop} {E : Prop} (hgd : o.guard = none) (x y : Operand) {base b : Nat} {ps : List Pl} {D : DH} {s : ByteArray} {q : Int} {g : Nat} {t : TypeId}
    (ho : o.op = .call { callee := .builtin .append, args := #[x, y], argTypes := #[50, 50] }) (hx : a.eval x = getV D s nilV) (hy : a.eval y = .slice (some ⟨g, 0, none⟩) 1 1)
    (hgrp : Grp w base b ps D) (hs : s.size ≤ maxLen) (hg : w.heap[g]? = some (.cells #[.int .i64 q] t (0, 0))) (hl : ps.length ≤ 1000) (hbs : base ≤ w.heap.size)
    (h : ∀ v' w3 w4 D', (Instr.mapUpdate 56 (.map (some b)) (.string s) v').run Try.prog w3 = .ok () w4 → Grp w4 base b (ps ++ [(s, q)]) D' → Below b w w4 → (∀ p : Addr, p.block < w.heap.size → (getV D s nilV).ownBlock ≠ some p.block → p.block ≠ b → w3.cell? p = w.cell? p ∧ w4.cell? p = w.cell? p) → K (a.put o.dst v') w3) :
    if Region.wanted o (yielded ops a.tmps) = true then Oper.wp Try.prog o a w K Q else E := by
  have hw : Region.wanted o (yielded ops a.tmps) = true := by simp [Region.wanted, hgd]
  rw [if_pos hw]
  obtain ⟨v', w3, w4, D', h1, h2, h3, h4, h5⟩ := hgrp.grow hs q g t o.type hg hl hbs
  exact wp_append_run x y 50 _ _ _ ho hx hy h1 (h v' w3 w4 D' h2 h3 h4 h5)

theorem take_snoc' {α : Type} {l : List α} {k : Nat} (d : α) (h : k < l.length) : l.take (k + 1) = l.take k ++ [l.getD k d] := by
  rw [List.take_succ_eq_append_getElem h]; simp [List.getD, h]

/-- Each pledge's amount is a number, its asset's name a text. -/
def PlWf (ps : List Pl) : Prop := ∀ p ∈ ps, i64 p.2 ∧ p.1.size ≤ maxLen

theorem grp_names {w : World} {base b : Nat} {ps : List Pl} {D : DH} (h : Grp w base b ps D) : keysV D = namesF ps := by
  refine sorted_ext (keysV_sorted h.map.2) (names_sorted ps) fun s => ?_
  rw [mem_keysV h.map.2, mem_names, h.has]

def mergeTo (ps : List Pl) (k : Nat) : List Pl := (((namesF ps).take k).filter fun s => decide (valF ps s ≠ 0)).map fun s => (s, valF ps s)
theorem mergeTo_snoc {ps : List Pl} {k : Nat} (h : k < (namesF ps).length) : mergeTo ps (k + 1) = mergeTo ps k ++ if valF ps ((namesF ps).getD k ByteArray.empty) ≠ 0 then [((namesF ps).getD k ByteArray.empty, valF ps ((namesF ps).getD k ByteArray.empty))] else [] := by
  unfold mergeTo
  rw [take_snoc' ByteArray.empty h, List.filter_append, List.map_append]
  congr 1
  by_cases hv : valF ps ((namesF ps).getD k ByteArray.empty) = 0
  · rw [if_neg (by simpa using hv), List.filter_cons, if_neg (by simpa using hv)]; rfl
  · rw [if_pos hv, List.filter_cons, if_pos (by simpa using hv)]; rfl
theorem mergeTo_len (ps : List Pl) (k : Nat) : (mergeTo ps k).length ≤ k := by
  unfold mergeTo
  rw [List.length_map]
  exact Nat.le_trans (List.length_filter_le _ _) (List.length_take_le _ _)

theorem own_base_le {w : World} {base base' e size n : Nat} {v : Value} {xs : List Value} (h : w.ownsRow base e size v n xs) (hb : base' ≤ base) : w.ownsRow base' e size v n xs := by
  refine ⟨h.1, ?_⟩
  rcases h.2 with h | ⟨g, cap, cur, h1, h2, h3⟩
  · exact .inl h
  · exact .inr ⟨g, cap, cur, h1, Nat.le_trans hb h2, h3⟩

theorem append_pl {w : World} {base : Nat} {v : Value} {xs : List Pl} (hown : OwnPl w base v xs) (p : Pl) (g : Nat) (t : TypeId) (hg : w.heap[g]? = some (.cells #[.string p.1, .int .i64 p.2] t (0, 0)))
    (hl : xs.length ≤ 1000) (hb : base ≤ w.heap.size) (ty : TypeId) :
    ∃ v' w', (Builtin.append_ #[28, 28] ty #[v, .slice (some ⟨g, 0, none⟩) 1 1]).run Try.prog w = .ok v' w' ∧ OwnPl w' base v' (xs ++ [p]) ∧ Below base w w' := by
  obtain ⟨i0, hi, hz0, hz1, hz2⟩ := info_parts infoP
  obtain ⟨v', w', h1, h2, h3, _, _⟩ := run_append_own_at (P := Try.prog) w base 28 ty 36 i0 (.agg #[.string ByteArray.empty, .int .i64 0]) 2 24 Try.underlying28 hi hz0 hz1 hz2 rfl (by decide) v xs.length (plCells xs) hown ⟨g, 0, none⟩ 1 1 [.string p.1, .int .i64 p.2] rfl
    (World.news_of_block hg) (fun u hu => by simp at hu; rcases hu with rfl | rfl <;> rfl) (by unfold maxLen; omega) (by omega) hb
  refine ⟨v', w', h1, ?_, (Below.refl _ _).grown h3 hb (own_base hown)⟩
  unfold OwnPl
  rw [plCells_snoc, List.length_append]
  exact h2

theorem names_row {w : World} {base : Nat} {v : Value} {D : DH} {ss : List ByteArray} (h : w.ownsRow base 9 1 v (keysL D).length ((keysL D).map encStr)) (hs : keysV D = ss) :
    ∃ a c, v = .slice a ss.length c ∧ (ss = [] ∨ ∃ g off, a = some ⟨g, off, none⟩ ∧ g < w.heap.size ∧ ∀ j, j < ss.length → w.cell? ⟨g, off + j, none⟩ = some (.string (ss.getD j ByteArray.empty))) := by
  have hl : (keysL D).length = ss.length := by rw [← hs, keysV, List.length_map]
  have he : (keysL D).map encStr = ss.map Value.string := by
    rw [← hs, keysV, List.map_map]
    exact List.map_congr_left fun l _ => rfl
  rw [hl, he] at h
  by_cases hx : ss = []
  · subst hx
    rcases h.2 with ⟨rfl, _⟩ | ⟨g, cap, cur, rfl, _⟩
    · exact ⟨none, 0, rfl, .inl rfl⟩
    · exact ⟨_, cap, rfl, .inl rfl⟩
  · obtain ⟨g, cap, rfl, _, hg, _, hc⟩ := row_cell h (List.length_pos_iff.2 hx)
    refine ⟨_, cap, rfl, .inr ⟨g, 0, rfl, hg, fun j hj => ?_⟩⟩
    rw [Nat.zero_add]
    exact hc j _ (by simp [List.getD, hj])

set_option maxRecDepth 100000 in
set_option maxHeartbeats 3200000 in
theorem merge_any (v : Value) (ps : List Pl) (w : World) (hv : PlAt w v ps) (hwf : PlWf ps) (hl : ps.length ≤ 500) :
    Calls Try.prog 12 #[v] w fun e w' => ∃ v', e = .returned v' ∧ OwnPl w' w.heap.size v' (mergeF ps) ∧ Below w.heap.size w w' := by
  obtain ⟨a, c, rfl, hcs⟩ := hv
  obtain ⟨n, hn⟩ : ∃ n, n = ps.length := ⟨_, rfl⟩
  rw [← hn] at hl ⊢
  have HN := Lib.hid hn
  have HX := Lib.hid hcs
  have HW := Lib.hid hwf
  clear hn hcs hwf
  have hmm := @run_makeMap Try.prog
  go_enter Try.func12, Try.ntmps12
  go_wp2
  clear hmm
  go_loopw [14] (fun i wr => ∃ k : Nat, i = .int .i64 k ∧ k ≤ n ∧ Hid (∃ D, Grp wr (w.heap.size + 1) w.heap.size (ps.take k) D) ∧ Below w.heap.size w wr ∧ w.heap.size < wr.heap.size) (fun i _ => (n - RowKit.intOf i).toNat)
  case atStart => exact ⟨0, rfl, Nat.zero_le _, Lib.hid ⟨_, grp_start w⟩, (Below.refl _ _).alloc (Nat.le_refl _) _, by simp⟩
  case round =>
    obtain ⟨k, rfl, hk, HG, hbw, hsz⟩ := hrel
    have HB := Lib.hid hbw
    by_cases hlt : k < n
    · have hltz : (k : Int) < (n : Int) := by omega
      have hk0 : (0 : Int) ≤ (k : Int) := by omega
      have h2 : k < ps.length := by rw [← HN.out]; exact hlt
      obtain ⟨g, off, rfl, hgl, x0, x1⟩ : ∃ g off, a = some ⟨g, off, none⟩ ∧ g < w.heap.size ∧ w.cell? ⟨g, off + k * 2, none⟩ = some (.string (ps.getD k (ByteArray.empty, 0)).1) ∧ w.cell? ⟨g, off + k * 2 + 1, none⟩ = some (.int .i64 (ps.getD k (ByteArray.empty, 0)).2) := by
        rcases HX.out with h | ⟨g, off, e, hg, hc⟩
        · rw [h] at h2; simp at h2
        · exact ⟨g, off, e, hg, (hc k h2).1, (hc k h2).2⟩
      rw [← hbw.cell (p := ⟨g, _, none⟩) hgl] at x0 x1
      have hsn := take_snoc' (ByteArray.empty, (0 : Int)) h2
      have hwfq := HW.out (ps.getD k (ByteArray.empty, 0)) (by rw [show ps.getD k (ByteArray.empty, 0) = ps[k] by simp [List.getD, h2]]; exact List.getElem_mem h2)
      obtain ⟨q, hq⟩ : ∃ q, q = ps.getD k (ByteArray.empty, 0) := ⟨_, rfl⟩
      rw [← hq] at x0 x1 hsn hwfq
      obtain ⟨D, hgd⟩ := HG.out
      have hpl : (ps.take k).length ≤ 1000 := by rw [List.length_take]; omega
      have HGS := Lib.hid (fun W' (hb : Below (wr.alloc (.cells #[.string q.1, .int .i64 q.2] 36)).heap.size (wr.alloc (.cells #[.string q.1, .int .i64 q.2] 36)) W') => (hgd.step ((Below.refl _ wr).alloc (Nat.le_refl _) (.cells #[.string q.1, .int .i64 q.2] 36))).step hb)
      have HSN := Lib.hid hsn
      have HWQ := Lib.hid hwfq
      have HPL := Lib.hid hpl
      have HLK := Lib.hid (fun W' hb => (HGS.out W' hb).look hwfq.2)
      have HSS := Lib.hid (fun W' (hb : Below (wr.alloc (.cells #[.string q.1, .int .i64 q.2] 36)).heap.size (wr.alloc (.cells #[.string q.1, .int .i64 q.2] 36)) W') =>
        (⟨(hb.cell (p := ⟨wr.heap.size, 0, none⟩) (by simp)).trans (by simp), (hb.cell (p := ⟨wr.heap.size, 1, none⟩) (by simp)).trans (by simp)⟩ :
          W'.cell? ⟨wr.heap.size, 0, none⟩ = some (.string q.1) ∧ W'.cell? ⟨wr.heap.size, 1, none⟩ = some (.int .i64 q.2)))
      have hlk1 := HLK.out _ (Below.drew (Below.refl _ _))
      have hlk2 := HLK.out (((wr.alloc (.cells #[.string q.1, .int .i64 q.2] 36)).alloc (.cells #[.int .i64 q.2] 3)).drew) (Below.drew (Below.alloc (Below.refl _ _) (Nat.le_refl _) _))
      have HHP : Hid (∀ u : Unit, (((wr.alloc (.cells #[.string q.1, .int .i64 q.2] 36)).alloc (.cells #[.int .i64 q.2] 3)).drew).heap[wr.heap.size + 1]? = some (.cells #[.int .i64 q.2] 3 (0, 0))) := Lib.hid (fun _ => by have h := heap_alloc_new (wr.alloc (.cells #[.string q.1, .int .i64 q.2] 36)) (.cells #[.int .i64 q.2] 3); have e : (wr.alloc (.cells #[.string q.1, .int .i64 q.2] 36)).heap.size = wr.heap.size + 1 := (by simp); rw [e] at h; exact h)
      have hob : (getV D q.1 nilV).ownBlock ≠ some wr.heap.size := fun e => by have := (own_lt (hgd.row q.1) _ e).2; omega
      have HS4 := Lib.hid (fun (w3 w4 : World) (hc3 : ∀ p : Addr, p.block < (((wr.alloc (.cells #[.string q.1, .int .i64 q.2] 36)).alloc (.cells #[.int .i64 q.2] 3)).drew).heap.size → (getV D q.1 nilV).ownBlock ≠ some p.block → p.block ≠ w.heap.size → w3.cell? p = (((wr.alloc (.cells #[.string q.1, .int .i64 q.2] 36)).alloc (.cells #[.int .i64 q.2] 3)).drew).cell? p ∧ w4.cell? p = (((wr.alloc (.cells #[.string q.1, .int .i64 q.2] 36)).alloc (.cells #[.int .i64 q.2] 3)).drew).cell? p) =>
        have h0 := HSS.out (((wr.alloc (.cells #[.string q.1, .int .i64 q.2] 36)).alloc (.cells #[.int .i64 q.2] 3)).drew) (Below.drew (Below.alloc (Below.refl _ _) (Nat.le_refl _) _))
        have ha := hc3 ⟨wr.heap.size, 0, none⟩ (by simp; omega) hob (by show wr.heap.size ≠ _; omega)
        have hb := hc3 ⟨wr.heap.size, 1, none⟩ (by simp; omega) hob (by show wr.heap.size ≠ _; omega)
        (⟨⟨ha.1.trans h0.1, hb.1.trans h0.2⟩, ⟨ha.2.trans h0.1, hb.2.trans h0.2⟩⟩ :
          (w3.cell? ⟨wr.heap.size, 0, none⟩ = some (.string q.1) ∧ w3.cell? ⟨wr.heap.size, 1, none⟩ = some (.int .i64 q.2)) ∧ (w4.cell? ⟨wr.heap.size, 0, none⟩ = some (.string q.1) ∧ w4.cell? ⟨wr.heap.size, 1, none⟩ = some (.int .i64 q.2))))
      clear hgd hq h2 hsn hwfq hpl hbw hob
      go_wp2_with fail
      go_region_held3 (fun w' => w'.cell? ⟨wr.heap.size, 0, none⟩ = some (.string q.1) ∧ w'.cell? ⟨wr.heap.size, 1, none⟩ = some (.int .i64 q.2))
        (first | exact HS3.out.1 | exact HS3.out.2 | exact HSS.out _ (Below.drew (Below.refl _ _)) | exact HSS.out _ (Below.drew (Below.alloc (Below.refl _ _) (Nat.le_refl _) _)))
        ((refine step_group (by rfl) (.tmp 24) (.tmp 27) (base := w.heap.size + 1) (b := w.heap.size) (ps := ps.take k) (D := D) (s := q.1) (q := q.2) (g := wr.heap.size + 1) (t := 3) (by rfl) (by rfl) (by rfl) (HGS.out _ (Below.drew (Below.alloc (Below.refl _ _) (Nat.le_refl _) _))) HWQ.out.2 (HHP.out ()) HPL.out (by simp; omega) ?_; intro v' w3 w4 D' hupd hg4 hb4 hc3; have HS3 := Lib.hid (HS4.out w3 w4 hc3); have HG4 := Lib.hid hg4; have HB4 := Lib.hid hb4; clear hg4 hb4 hc3))
      all_goals
        have HB5 := Lib.hid (((HB.out.alloc HB.out.size (.cells #[.string q.1, .int .i64 q.2] 36)).alloc (by simp; omega) (.cells #[.int .i64 q.2] 3)).drew.trans HB4.out)
        have HZ5 := Lib.hid HB4.out.size
        clear hlk1 hlk2 hupd
        go_wp2_with fail
        go_roundw
        case rel => exact ⟨k + 1, by go_num, by omega, Lib.hid ⟨_, by rw [HSN.out]; exact HG4.out⟩, HB5.out, by have := HZ5.out; simp at this; omega⟩
        case measure => simp [RowKit.intOf]; omega
    · have hltz : ¬ (k : Int) < (n : Int) := by omega
      obtain rfl : k = n := by omega
      obtain ⟨D, hgd⟩ := HG.out
      have e0 : ps.take k = ps := List.take_of_length_le (by rw [← HN.out]; exact Nat.le_refl _)
      rw [e0] at hgd
      have HGD := Lib.hid hgd
      have HKY := Lib.hid (sorted_any w.heap.size D wr hgd.map (by have := hgd.size; have := HN.out; omega) wr.heap.size rfl)
      have HNM := Lib.hid (grp_names hgd)
      clear hgd e0 HG hbw hsz
      go_wp2_with fail
      refine (keys_any _ _).mono ?_
      rintro e w' ⟨rfl, rfl⟩
      go_wp2_with fail
      refine HKY.out.mono ?_
      rintro e wS ⟨vn, rfl, hrow, hbS⟩
      have HGS := Lib.hid (HGD.out.step hbS)
      have HBS := Lib.hid (HB.out.trans (hbS.mono HB.out.size))
      obtain ⟨an, cn, rfl, hnc⟩ := names_row hrow HNM.out
      have HNC := Lib.hid hnc
      obtain ⟨m, hm⟩ : ∃ m, m = (namesF ps).length := ⟨_, rfl⟩
      rw [← hm]
      have HMM := Lib.hid hm
      have hml : m ≤ 500 := by
        have h1 := keysV_length D
        rw [HNM.out, ← hm] at h1
        have := HGD.out.size
        have := HN.out
        omega
      clear hrow hbS hnc hm HKY HGD
      go_wp2_with fail
      go_loopw [6, 34] (fun o i wr => ∃ (j : Nat) (x : Value), x = o ∧ i = .int .i64 j ∧ j ≤ m ∧ Hid (OwnPl wr wS.heap.size x (mergeTo ps j)) ∧ Below wS.heap.size wS wr) (fun _ i _ => (m - RowKit.intOf i).toNat)
      case atStart => exact ⟨0, _, rfl, rfl, Nat.zero_le _, Lib.hid (World.ownsRow_nil _ _ _ _), Below.refl _ _⟩
      case round =>
        obtain ⟨j, x, rfl, rfl, hj, HO, hbw⟩ := hrel
        have HB2 := Lib.hid hbw
        by_cases hjl : j < m
        · have hjlz : (j : Int) < (m : Int) := by omega
          have h2 : j < (namesF ps).length := by rw [← HMM.out]; exact hjl
          obtain ⟨g, off, rfl, hgl, x0⟩ : ∃ g off, an = some ⟨g, off, none⟩ ∧ g < wS.heap.size ∧ wS.cell? ⟨g, off + j, none⟩ = some (.string ((namesF ps).getD j ByteArray.empty)) := by
            rcases HNC.out with h | ⟨g, off, e, hg, hc⟩
            · rw [h] at h2; simp at h2
            · exact ⟨g, off, e, hg, hc j h2⟩
          rw [← hbw.cell (p := ⟨g, _, none⟩) hgl] at x0
          have hsn := mergeTo_snoc h2
          have hms := (mem_names ps ((namesF ps).getD j ByteArray.empty)).1 (by rw [show (namesF ps).getD j ByteArray.empty = (namesF ps)[j] by simp [List.getD, h2]]; exact List.getElem_mem h2)
          obtain ⟨s, hs⟩ : ∃ s, s = (namesF ps).getD j ByteArray.empty := ⟨_, rfl⟩
          rw [← hs] at x0 hsn hms
          have hss : s.size ≤ maxLen := by
            obtain ⟨p, hp, rfl⟩ := hms
            exact (HW.out p hp).2
          have hg2 := (HGS.out.step hbw)
          have hg3 := hg2.step ((Below.refl _ wr).alloc (Nat.le_refl _) (.cells #[.bool false] 34))
          have hlook := hg3.look hss
          have hint := ints_row (hg3.row s) (by have := gq_len ps s; have := HN.out; omega) (fun z hz => gq_wf (fun p hp => (HW.out p hp).1) s z hz)
          have hmk : MarkAt (wr.alloc (.cells #[.bool false] 34)) wr.heap.size false := ⟨by simp, by simp⟩
          have hadd := add_any wr.heap.size false (getV D s nilV) (gq ps s) _ hmk hint
          rw [gq_sum] at hadd
          have HA := Lib.hid hadd
          have HSN := Lib.hid hsn
          have HLE := Lib.hid (mergeTo_len ps j)
          have HOX := Lib.hid (World.ownsRow.alloc HO.out (.cells #[.bool false] 34))
          clear hs h2 hsn hms hss hg2 hg3 hint hmk hadd hbw
          go_wp2_with fail
          refine HA.out.mono ?_
          rintro e w3 ⟨rfl, hw3⟩
          have hb3 : Below wr.heap.size wr w3 := by rw [hw3]; exact addW_below ((Below.refl _ _).alloc (Nat.le_refl _) _) (Nat.le_refl _)
          have ho3 : OwnPl w3 wS.heap.size x (mergeTo ps j) := own_below HO.out hb3
          have HB3 := Lib.hid (HB2.out.trans (hb3.mono HB2.out.size))
          obtain ⟨z, hz⟩ : ∃ z, z = valF ps s := ⟨_, rfl⟩
          have hz' : (addF (qsum ps s)).1 = z := hz.symm
          rw [hz']
          have HSN2 := HSN.out
          rw [← hz] at HSN2
          have HSN3 := Lib.hid HSN2
          clear hw3 hz hz' HSN2 hlook
          by_cases hz0 : z = 0
          · subst hz0
            have HO3 := Lib.hid ho3
            have HSN4 := Lib.hid (show mergeTo ps (j + 1) = mergeTo ps j by rw [HSN3.out]; simp)
            clear ho3 hb3
            go_wp2_with fail
            go_roundw
            case rel => exact ⟨j + 1, _, rfl, by go_num, by omega, Lib.hid (by rw [HSN4.out]; exact HO3.out), HB3.out⟩
            case measure => simp [RowKit.intOf]; omega
          · have hz1 : (z == 0) = false := by simpa using hz0
            have hz2 : (z != 0) = true := by simpa using hz0
            obtain ⟨v', w5, hrun, ho5, hb5⟩ := append_pl (World.ownsRow.alloc ho3 (.cells #[.string s, .int .i64 z] 36)) (s, z) w3.heap.size 36 (heap_alloc_new _ _) (by have := HLE.out; omega) (by have := HB3.out.size; simp; omega) 28
            have HR := Lib.hid hrun
            have HO5 := Lib.hid (show OwnPl w5 wS.heap.size v' (mergeTo ps (j + 1)) by rw [HSN3.out, if_pos hz0]; exact ho5)
            have HB5 := Lib.hid ((HB3.out.alloc HB3.out.size (.cells #[.string s, .int .i64 z] 36)).trans hb5)
            clear hrun ho5 hb5 hb3 ho3 hz0
            go_wp2_with (at_builtin; refine wpList_append_run rfl _ _ _ _ _ _ rfl rfl rfl HR.out ?_)
            go_roundw
            case rel => exact ⟨j + 1, _, rfl, by go_num, by omega, HO5, HB5.out⟩
            case measure => simp [RowKit.intOf]; omega
        · have hjlz : ¬ (j : Int) < (m : Int) := by omega
          obtain rfl : j = m := by omega
          have HFIN := Lib.hid (show OwnPl wr w.heap.size x (mergeF ps) by
            have e : mergeTo ps j = mergeF ps := by
              unfold mergeTo mergeF
              rw [List.take_of_length_le (by rw [← HMM.out]; exact Nat.le_refl _)]
            have h := HO.out
            rw [e] at h
            exact own_base_le h HBS.out.size)
          have HBF := Lib.hid (HBS.out.trans (HB2.out.mono HBS.out.size))
          clear hbw
          go_wp2
          go_ret
          exact ⟨_, rfl, HFIN.out, HBF.out⟩

end Go.Proofs.Ytnehamkpeeadjaa
