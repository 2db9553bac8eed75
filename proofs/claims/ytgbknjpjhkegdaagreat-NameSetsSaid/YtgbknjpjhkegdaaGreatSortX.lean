/-
  The document's sorting of texts: its function.
-/
import Derived.Test.YtgbknjpjhkegdaaGreatSortW
namespace Go.Proofs.YtgbknjpjhkegdaaGreat
open Go.RowKit Go.Maps Go.WideMaps
set_option linter.unusedVariables false

theorem mem_getD {ss : List ByteArray} {k : Nat} (h : k < ss.length) : ss.getD k ByteArray.empty ∈ ss := by rw [getD_lt h]; exact List.getElem_mem h
theorem ownT_below {w w' : World} {base : Nat} {v : Value} {ss : List ByteArray} (h : OwnT w base v ss) (hb : Below w.heap.size w w') : OwnT w' base v ss := ownsRow_below h hb
theorem ownT_at {w : World} {base n : Nat} {a : Option Addr} {c : Nat} {ss : List ByteArray} (h : OwnT w base (.slice a n c) ss) {q : Nat} (hq : q < n) : ∃ g, a = some ⟨g, 0, none⟩ ∧ n ≤ c ∧ n = ss.length ∧ g < w.heap.size ∧ w.cell? ⟨g, q, none⟩ = some (.string (ss.getD q ByteArray.empty)) := by
  have hn : n = ss.length := by
    obtain ⟨a', c', e⟩ := own_form h
    injection e
  obtain ⟨g, cap, e, _, hg, hc, hcell⟩ := own_row_cell h (by omega)
  injection e with e1 e2 e3
  subst e1 e3
  exact ⟨g, rfl, by omega, hn, hg, hcell q _ (by simp [List.getD, show q < ss.length by omega])⟩

theorem sort_new {w w3 : World} {B0 B n q : Nat} {a3 : Value} {l R : List ByteArray} {x : ByteArray} (h1 : R = insR l x) (h2 : insR l x = l.take q ++ [x] ++ l.drop q) (h3 : OwnT w3 B a3 (l.take q ++ [x] ++ l.drop q)) (hn : n = l.length) (hq : q ≤ n) (hB : B0 ≤ B) (hb : Below B0 w w3) :
    ∃ (n' c' : Nat) (a' : Option Addr), a3 = .slice a' n' c' ∧ n' = n + 1 ∧ ((n' = 0 → a' = none ∧ c' = 0) ∧ OwnT w3 B0 (.slice a' n' c') R ∧ Below B0 w w3) := by
  obtain ⟨a', c', e⟩ := own_form h3
  have hl : (l.take q ++ [x] ++ l.drop q).length = n + 1 := by simp; omega
  rw [hl] at e
  subst e
  exact ⟨n + 1, c', a', rfl, rfl, fun h => by omega, by rw [h1, h2]; exact own_le h3 fun k hk => by have := (h3.lt k hk).1; omega, hb⟩

set_option maxRecDepth 100000 in
set_option maxHeartbeats 4000000 in
theorem refSort_any (v : Value) (ss : List ByteArray) (w : World) (hv : TextsAt w v ss) (hl : ss.length ≤ 100000) (hs : ∀ s ∈ ss, s.size ≤ 100000) :
    Calls Tryz.prog 10 #[v] w fun e w' => ∃ v', e = .returned v' ∧ OwnT w' w.heap.size v' (refS ss) ∧ Below w.heap.size w w' := by
  have HV := Lib.hid hv
  have HSZ := Lib.hid hs
  have HLL := Lib.hid hl
  obtain ⟨av, cv, rfl, z1, z2, z3⟩ := hv
  clear z1 z2 z3
  obtain ⟨N, hN⟩ : ∃ N, N = ss.length := ⟨_, rfl⟩
  rw [← hN] at hl HV ⊢
  have HN := Lib.hid hN
  clear hs hN
  go_enter Tryz.func10, Tryz.ntmps10
  go_wp2
  go_loopw [3, 4] (fun o i wr => ∃ (j n c : Nat) (a : Option Addr), o = .slice a n c ∧ i = .int .i64 j ∧ j ≤ N ∧ n ≤ j ∧ Hid ((n = 0 → a = none ∧ c = 0) ∧ OwnT wr w.heap.size (.slice a n c) (refS (ss.take j)) ∧ Below w.heap.size w wr)) (fun _ i _ => (N - RowKit.intOf i).toNat)
  case atStart => exact ⟨0, 0, 0, none, rfl, rfl, Nat.zero_le _, Nat.le_refl _, Lib.hid ⟨fun _ => ⟨rfl, rfl⟩, World.ownsRow_nil _ _ _ _, Below.refl _ _⟩⟩
  case round =>
    obtain ⟨j, n, c, a, rfl, rfl, hj, hnj, HI⟩ := hrel
    by_cases hlt : j < N
    · have hltz : (j : Int) < (N : Int) := by omega
      have hj0 : (0 : Int) ≤ (j : Int) := by omega
      obtain ⟨b, off, rfl, z1, hbl, hcl⟩ := TextsAt.cellAt HV.out (k := j) (by rw [← HN.out]; exact hlt)
      clear z1
      have x0 := hcl j (by rw [← HN.out]; exact hlt)
      have hxs := HSZ.out _ (mem_getD (k := j) (ss := ss) (by rw [← HN.out]; exact hlt))
      have hsn : ss.take (j + 1) = ss.take j ++ [ss.getD j ByteArray.empty] := take_snoc (by rw [← HN.out]; exact hlt)
      obtain ⟨x, hx⟩ : ∃ x, x = ss.getD j ByteArray.empty := ⟨_, rfl⟩
      rw [← hx] at x0 hxs hsn
      obtain ⟨l, hlr⟩ : ∃ l, l = refS (ss.take j) := ⟨_, rfl⟩
      rw [← hlr] at HI
      have HNX : Hid (refS (ss.take (j + 1)) = insR l x) := Lib.hid (by rw [hsn, refS_snoc, hlr])
      have hnl : n = l.length := by
        obtain ⟨a', c', e⟩ := own_form HI.out.2.1
        injection e
      have HNL := Lib.hid hnl
      have HLS : Hid (∀ s ∈ l, s.size ≤ 100000) := Lib.hid (fun s hsl => HSZ.out s (List.mem_of_mem_take ((mem_refS s _).1 (by rw [← hlr]; exact hsl))))
      have HX0 := Lib.hid (fun W (hb : Below w.heap.size w W) => (hb.cell (p := ⟨b, off + j, none⟩) hbl).trans x0)
      have HXS := Lib.hid hxs
      clear hsn hlr x0 hcl hbl hx hxs hnl
      go_wp2_with fail
      go_loopw [5] (fun k wr => ∃ q : Nat, k = .int .i64 q ∧ q ≤ n ∧ Hid ((∀ p, p < q → cmpS (l.getD p ByteArray.empty) x < 0) ∧ OwnT wr w.heap.size (.slice a n c) l ∧ Below w.heap.size w wr)) (fun k _ => (n - RowKit.intOf k).toNat)
      case atStart => exact ⟨0, rfl, Nat.zero_le _, Lib.hid ⟨fun p hp => absurd hp (Nat.not_lt_zero _), HI.out.2⟩⟩
      case round =>
        obtain ⟨q, rfl, hq, HQ⟩ := hrel
        have HEND : Hid (∀ W, Below wr.heap.size wr W → (∀ p, q = p → p < n → ¬ cmpS (l.getD p ByteArray.empty) x < 0) → ¬ (q < n ∧ l.getD q ByteArray.empty = x) → insR l x = l.take q ++ [x] ++ l.drop q) := Lib.hid (fun W hb h1 h2 => by
          rw [insR_at x l q (by rw [← HNL.out]; exact hq) HQ.out.1 (fun h => h1 q rfl (by rw [HNL.out]; exact h)), if_neg (by rw [← HNL.out]; exact h2)])
        by_cases hqn : q < n
        · have hqz : (q : Int) < (n : Int) := by omega
          have hq0 : (0 : Int) ≤ (q : Int) := by omega
          obtain ⟨g, rfl, hnc, z1, hgl, y0⟩ := ownT_at HQ.out.2.1 hqn
          clear z1
          have x1 := HX0.out wr HQ.out.2.2
          have hys := HLS.out _ (mem_getD (k := q) (ss := l) (by rw [← HNL.out]; exact hqn))
          obtain ⟨y, hy⟩ : ∃ y, y = l.getD q ByteArray.empty := ⟨_, rfl⟩
          rw [← hy] at y0 hys
          have HCM := Lib.hid (fun W => refCmp_any y x W hys HXS.out)
          have HY := Lib.hid hy
          obtain ⟨r, hr⟩ : ∃ r, r = cmpS y x := ⟨_, rfl⟩
          rw [← hr] at HCM
          have HR := Lib.hid hr
          have HY0 := Lib.hid (fun W (hb : Below wr.heap.size wr W) => (hb.cell (p := ⟨g, q, none⟩) hgl).trans y0)
          have HX1 := Lib.hid (fun W (hb : Below wr.heap.size wr W) => HX0.out W (HQ.out.2.2.trans (hb.mono HQ.out.2.2.size)))
          clear hy hr hys hgl
          by_cases hneg : r < 0
          · go_wp2_with fail
            go_region_held3 (fun w' => w'.cell? ⟨g, q, none⟩ = some (.string y) ∧ w'.cell? ⟨b, off + j, none⟩ = some (.string x)) (first | exact ⟨y0, x1⟩ | exact ⟨HY0.out _ hB1, HX1.out _ hB1⟩)
              (first
                | (go_at_call 16; refine (HCM.out _).mono ?_; rintro e w1 ⟨rfl, hb1⟩; have hB1 : Below wr.heap.size wr w1 := (Below.drew (Below.refl _ _)).trans hb1))
            have HQ2 := Lib.hid hB1
            clear hb1 hB1 y0 x1
            go_wp2_with fail
            go_roundw
            case rel =>
              refine ⟨q + 1, by go_num, by omega, Lib.hid ⟨fun p hp => ?_, ownT_below HQ.out.2.1 HQ2.out, HQ.out.2.2.trans (HQ2.out.mono HQ.out.2.2.size)⟩⟩
              by_cases hpq : p = q
              · subst hpq; rw [← HY.out, ← HR.out]; exact hneg
              · exact HQ.out.1 p (by omega)
            case measure => simp [RowKit.intOf]; omega
          · go_wp2_with fail
            go_region_held3 (fun w' => w'.cell? ⟨g, q, none⟩ = some (.string y) ∧ w'.cell? ⟨b, off + j, none⟩ = some (.string x)) (first | exact ⟨y0, x1⟩ | exact ⟨HY0.out _ hB1, HX1.out _ hB1⟩)
              (first
                | (go_at_call 16; refine (HCM.out _).mono ?_; rintro e w1 ⟨rfl, hb1⟩; have hB1 : Below wr.heap.size wr w1 := (Below.drew (Below.refl _ _)).trans hb1))
            have HQ2 := Lib.hid hB1
            have y2 := HY0.out _ hB1
            have x2 := HX1.out _ hB1
            clear hb1 hB1 y0 x1
            by_cases hyx : y = x
            · have hbq : (y.toList == x.toList) = true := by rw [hyx]; simp
              have HE : Hid (insR l x = l) := Lib.hid (by
                rw [insR_at x l q (by rw [← HNL.out]; exact hq) HQ.out.1 (fun _ => by rw [← HY.out, ← HR.out]; omega), if_pos ⟨by rw [← HNL.out]; exact hqn, by rw [← HY.out]; exact hyx⟩])
              have HYX := Lib.hid hyx
              clear hyx
              go_wp2_with fail
              go_quiet (fail)
              generalize hw8 : World.drewN _ _ = w8
              have HB8 : Hid (Below wr.heap.size wr w8) := Lib.hid (by rw [← hw8]; exact below_drewN HQ2.out _)
              clear hw8 y2 x2 hbq
              go_wp2_with fail
              go_roundw
              case rel =>
                have hbf := HB8.out
                exact ⟨j + 1, n, c, _, rfl, by go_num, by omega, by omega, Lib.hid ⟨fun h => by omega, by rw [HNX.out, HE.out]; exact ownT_below HQ.out.2.1 hbf, HQ.out.2.2.trans (hbf.mono HQ.out.2.2.size)⟩⟩
              case measure => simp [RowKit.intOf]; omega
            · have hbq : (y.toList == x.toList) = false := by
                cases hh : (y.toList == x.toList)
                · rfl
                · exact absurd (toList_eq' (p := y) (q := x) (by simp [hh])) hyx
              have HEQ : Hid (insR l x = l.take q ++ [x] ++ l.drop q) := Lib.hid (by
                rw [insR_at x l q (by rw [← HNL.out]; exact hq) HQ.out.1 (fun _ => by rw [← HY.out, ← HR.out]; omega), if_neg (fun h => hyx (by rw [HY.out]; exact h.2))])
              have HYX := Lib.hid hyx
              clear hyx
              go_wp2_with fail
              go_quiet (fail)
              generalize hw8 : World.drewN _ _ = w8
              have HB8 : Hid (Below wr.heap.size wr w8) := Lib.hid (by rw [← hw8]; exact below_drewN HQ2.out _)
              clear hw8 y2 x2 hbq
              have hcq : ¬ c = q := by omega
              have hi1 : (q : Int) ≤ (c : Int) := by omega
              have hi2 : (q : Int) ≤ (n : Int) := by omega
              have hi3 : (n : Int) ≤ (c : Int) := by omega
              have hpc := ownT_pieces (ownT_below HQ.out.2.1 HB8.out) (by have := HNL.out; omega) (fun s hsl => by have := HLS.out s hsl; omega) hq (fun h => by omega)
              have HP1 := Lib.hid hpc.1
              have HP2 : Hid (TextsAt w8 (.slice (some ⟨g, q, none⟩) (n - q) (c - q)) (l.drop q)) := Lib.hid (by
                rcases hpc.2 with h | ⟨g', e, _, h⟩
                · omega
                · injection e with e
                  injection e with e _ _
                  subst e
                  rwa [if_neg hcq] at h)
              clear hpc
              have hp1 := HP1.out.below (Below.drew (Below.refl w8.heap.size w8))
              have hp2 := HP2.out.below (Below.drew (Below.refl w8.heap.size w8))
              obtain ⟨⟨a1, w1, a2, w2, a3, w3, r1, r2, r3, q3, b1, b2, b3⟩, ⟨c1, v1, c2, v2, c3, v3, t1, t2, t3, s3, d1, d2, d3⟩⟩ := sortStep (x := x) hp1 hp2 (by have := HNL.out; rw [List.length_take, List.length_drop]; omega)
              have z0 := HX1.out w8 HB8.out
              have z1 : w1.cell? ⟨b, off + j, none⟩ = some (.string x) := HX1.out w1 (HB8.out.drew.trans (b1.mono HB8.out.size))
              have z2 : w2.cell? ⟨b, off + j, none⟩ = some (.string x) := HX1.out w2 (HB8.out.drew.trans (b2.mono HB8.out.size))
              have z3 : w3.cell? ⟨b, off + j, none⟩ = some (.string x) := HX1.out w3 (HB8.out.drew.trans (b3.mono HB8.out.size))
              have y1 : v1.cell? ⟨b, off + j, none⟩ = some (.string x) := HX1.out v1 (HB8.out.drew.trans (d1.mono HB8.out.size))
              have y2 : v2.cell? ⟨b, off + j, none⟩ = some (.string x) := HX1.out v2 (HB8.out.drew.trans (d2.mono HB8.out.size))
              have y3 : v3.cell? ⟨b, off + j, none⟩ = some (.string x) := HX1.out v3 (HB8.out.drew.trans (d3.mono HB8.out.size))
              have HA : Hid (∀ _ : Unit, ∃ (n' c' : Nat) (a' : Option Addr), a3 = .slice a' n' c' ∧ n' = n + 1 ∧ ((n' = 0 → a' = none ∧ c' = 0) ∧ OwnT w3 w.heap.size (.slice a' n' c') (refS (ss.take (j + 1))) ∧ Below w.heap.size w w3)) := Lib.hid (fun _ => sort_new HNX.out HEQ.out q3 HNL.out hq (by have := HB8.out.size; have := HQ.out.2.2.size; exact Nat.le_trans (HQ.out.2.2.size) (HB8.out.size)) (HQ.out.2.2.trans ((HB8.out.drew.trans (b3.mono HB8.out.size)).mono HQ.out.2.2.size)))
              have HB : Hid (∀ _ : Unit, ∃ (n' c' : Nat) (a' : Option Addr), c3 = .slice a' n' c' ∧ n' = n + 1 ∧ ((n' = 0 → a' = none ∧ c' = 0) ∧ OwnT v3 w.heap.size (.slice a' n' c') (refS (ss.take (j + 1))) ∧ Below w.heap.size w v3)) := Lib.hid (fun _ => sort_new HNX.out HEQ.out s3 HNL.out hq (by have := HB8.out.size; have := HQ.out.2.2.size; exact Nat.le_trans (HQ.out.2.2.size) (HB8.out.size)) (HQ.out.2.2.trans ((HB8.out.drew.trans (d3.mono HB8.out.size)).mono HQ.out.2.2.size)))
              have g1 := (Below.alloc (Below.refl w1.heap.size w1) (Nat.le_refl _) (.cells #[.string x] 9)).cell (p := ⟨b, off + j, none⟩) (World.block_lt_of_cell? w1 _ z1)
              have g2 := (Below.alloc (Below.refl w8.heap.size w8.drew) (Nat.le_refl _) (.cells #[.string x] 9)).cell (p := ⟨b, off + j, none⟩) (World.block_lt_of_cell? w8 _ z0)
              rw [z1] at g1
              replace g2 : (w8.drew.alloc (.cells #[.string x] 9)).cell? ⟨b, off + j, none⟩ = some (.string x) := g2.trans z0
              clear hp1 hp2 q3 s3 b1 b2 b3 d1 d2 d3
              go_wp2_with fail
              go_region_held3 (fun w' => w'.cell? ⟨b, off + j, none⟩ = some (.string x)) (first | exact z0 | exact z1 | exact z2 | exact z3 | exact y1 | exact y2 | exact y3 | exact g1 | exact g2)
                (first
                  | (refine stepB_append_run (by rfl) (.const (.slice none 0 0)) (.tmp 47) 22 (.slice none 0 0) (.slice (some ⟨g, 0, none⟩) q c) a1 (by rfl) (by rfl) (by rfl) r1 ?_)
                  | (refine stepB_append_run (by rfl) (.const (.slice none 0 0)) (.tmp 47) 22 (.slice none 0 0) (.slice (some ⟨g, 0, none⟩) q c) c1 (by rfl) (by rfl) (by rfl) t1 ?_)
                  | (refine stepB_append_run (by rfl) (.tmp 48) (.tmp 53) 22 a1 (.slice (some ⟨w1.heap.size, 0, none⟩) 1 1) a2 (by rfl) (by rfl) (by rfl) r2 ?_)
                  | (refine stepB_append_run (by rfl) (.tmp 48) (.tmp 53) 22 c1 (.slice (some ⟨w8.heap.size, 0, none⟩) 1 1) c2 (by rfl) (by rfl) (by rfl) t2 ?_)
                  | (refine stepB_append_run (by rfl) (.tmp 54) (.tmp 57) 22 a2 (.slice (some ⟨g, q, none⟩) (n - q) (c - q)) a3 (by rfl) (by rfl) (by rfl) r3 ?_)
                  | (refine stepB_append_run (by rfl) (.tmp 54) (.tmp 57) 22 c2 (.slice (some ⟨g, q, none⟩) (n - q) (c - q)) c3 (by rfl) (by rfl) (by rfl) t3 ?_))
              all_goals
                clear r1 r2 r3 t1 t2 t3 z0 z1 z2 z3 y1 y2 y3 g1 g2
                first
                  | (obtain ⟨n', c', a', rfl, e4, h4⟩ := HA.out ()
                     have H4 := Lib.hid h4
                     clear h4
                     go_wp2_with fail
                     go_roundw
                     case rel => exact ⟨j + 1, n', c', a', rfl, by go_num, by omega, by omega, H4⟩
                     case measure => simp [RowKit.intOf]; omega)
                  | (obtain ⟨n', c', a', rfl, e4, h4⟩ := HB.out ()
                     have H4 := Lib.hid h4
                     clear h4
                     go_wp2_with fail
                     go_roundw
                     case rel => exact ⟨j + 1, n', c', a', rfl, by go_num, by omega, by omega, H4⟩
                     case measure => simp [RowKit.intOf]; omega)
        · obtain rfl : q = n := by omega
          have HX1 := Lib.hid (fun W (hb : Below wr.heap.size wr W) => HX0.out W (HQ.out.2.2.trans (hb.mono HQ.out.2.2.size)))
          have HEQ := Lib.hid (HEND.out wr (Below.refl _ _) (fun p h1 h2 => by omega) (fun h => by omega))
          have HZ := Lib.hid HI.out.1
          have HOW := Lib.hid (fun W (hb : Below wr.heap.size wr W) => ownT_pieces (ownT_below HQ.out.2.1 hb) (by have := HNL.out; omega) (fun s hsl => by have := HLS.out s hsl; omega) (Nat.le_refl q) HZ.out)
          clear HI HEND
          rcases Nat.eq_zero_or_pos q with hq0 | hq0
          · obtain ⟨rfl, rfl⟩ := HZ.out hq0
            subst hq0
            go_wp2_with fail
            go_quiet (fail)
            generalize hw6 : World.drewN _ _ = w6
            have HB6 : Hid (Below wr.heap.size wr w6) := Lib.hid (by rw [← hw6]; exact below_drewN (Below.refl _ _) _)
            clear hw6
            go_wp2_with fail
            go_quiet (fail)
            generalize hw8 : World.drewN _ _ = w8
            have HB8 : Hid (Below wr.heap.size wr w8) := Lib.hid (by rw [← hw8]; exact below_drewN HB6.out _)
            clear hw8
            have HP1 := Lib.hid (HOW.out w8 HB8.out).1
            have HP2 : Hid (TextsAt w8 (.slice none 0 0) (l.drop 0)) := Lib.hid (by
              have : l = [] := List.eq_nil_of_length_eq_zero (by have := HNL.out; omega)
              rw [this]
              exact ⟨_, _, rfl, by simp, by simp, .inl rfl⟩)
            have hp1 := HP1.out.below (Below.drew (Below.refl w8.heap.size w8))
            have hp2 := HP2.out.below (Below.drew (Below.refl w8.heap.size w8))
            obtain ⟨⟨a1, w1, a2, w2, a3, w3, r1, r2, r3, q3, b1, b2, b3⟩, ⟨c1, v1, c2, v2, c3, v3, t1, t2, t3, s3, d1, d2, d3⟩⟩ := sortStep (x := x) hp1 hp2 (by have := HNL.out; rw [List.length_take, List.length_drop]; omega)
            have z0 := HX1.out w8 HB8.out
            have z1 : w1.cell? ⟨b, off + j, none⟩ = some (.string x) := HX1.out w1 (HB8.out.drew.trans (b1.mono HB8.out.size))
            have z2 : w2.cell? ⟨b, off + j, none⟩ = some (.string x) := HX1.out w2 (HB8.out.drew.trans (b2.mono HB8.out.size))
            have z3 : w3.cell? ⟨b, off + j, none⟩ = some (.string x) := HX1.out w3 (HB8.out.drew.trans (b3.mono HB8.out.size))
            have y1 : v1.cell? ⟨b, off + j, none⟩ = some (.string x) := HX1.out v1 (HB8.out.drew.trans (d1.mono HB8.out.size))
            have y2 : v2.cell? ⟨b, off + j, none⟩ = some (.string x) := HX1.out v2 (HB8.out.drew.trans (d2.mono HB8.out.size))
            have y3 : v3.cell? ⟨b, off + j, none⟩ = some (.string x) := HX1.out v3 (HB8.out.drew.trans (d3.mono HB8.out.size))
            have HA : Hid (∀ _ : Unit, ∃ (n' c' : Nat) (a' : Option Addr), a3 = .slice a' n' c' ∧ n' = 0 + 1 ∧ ((n' = 0 → a' = none ∧ c' = 0) ∧ OwnT w3 w.heap.size (.slice a' n' c') (refS (ss.take (j + 1))) ∧ Below w.heap.size w w3)) := Lib.hid (fun _ => sort_new HNX.out HEQ.out q3 HNL.out hq (by have := HB8.out.size; have := HQ.out.2.2.size; exact Nat.le_trans (HQ.out.2.2.size) (HB8.out.size)) (HQ.out.2.2.trans ((HB8.out.drew.trans (b3.mono HB8.out.size)).mono HQ.out.2.2.size)))
            have HB : Hid (∀ _ : Unit, ∃ (n' c' : Nat) (a' : Option Addr), c3 = .slice a' n' c' ∧ n' = 0 + 1 ∧ ((n' = 0 → a' = none ∧ c' = 0) ∧ OwnT v3 w.heap.size (.slice a' n' c') (refS (ss.take (j + 1))) ∧ Below w.heap.size w v3)) := Lib.hid (fun _ => sort_new HNX.out HEQ.out s3 HNL.out hq (by have := HB8.out.size; have := HQ.out.2.2.size; exact Nat.le_trans (HQ.out.2.2.size) (HB8.out.size)) (HQ.out.2.2.trans ((HB8.out.drew.trans (d3.mono HB8.out.size)).mono HQ.out.2.2.size)))
            have g1 := (Below.alloc (Below.refl w1.heap.size w1) (Nat.le_refl _) (.cells #[.string x] 9)).cell (p := ⟨b, off + j, none⟩) (World.block_lt_of_cell? w1 _ z1)
            have g2 := (Below.alloc (Below.refl w8.heap.size w8.drew) (Nat.le_refl _) (.cells #[.string x] 9)).cell (p := ⟨b, off + j, none⟩) (World.block_lt_of_cell? w8 _ z0)
            rw [z1] at g1
            replace g2 : (w8.drew.alloc (.cells #[.string x] 9)).cell? ⟨b, off + j, none⟩ = some (.string x) := g2.trans z0
            clear hp1 hp2 q3 s3 b1 b2 b3 d1 d2 d3
            go_wp2_with fail
            go_region_held3 (fun w' => w'.cell? ⟨b, off + j, none⟩ = some (.string x)) (first | exact z0 | exact z1 | exact z2 | exact z3 | exact y1 | exact y2 | exact y3 | exact g1 | exact g2)
              (first
                | (refine stepB_append_run (by rfl) (.const (.slice none 0 0)) (.tmp 47) 22 (.slice none 0 0) (.slice none 0 0) a1 (by rfl) (by rfl) (by rfl) r1 ?_)
                | (refine stepB_append_run (by rfl) (.const (.slice none 0 0)) (.tmp 47) 22 (.slice none 0 0) (.slice none 0 0) c1 (by rfl) (by rfl) (by rfl) t1 ?_)
                | (refine stepB_append_run (by rfl) (.tmp 48) (.tmp 53) 22 a1 (.slice (some ⟨w1.heap.size, 0, none⟩) 1 1) a2 (by rfl) (by rfl) (by rfl) r2 ?_)
                | (refine stepB_append_run (by rfl) (.tmp 48) (.tmp 53) 22 c1 (.slice (some ⟨w8.heap.size, 0, none⟩) 1 1) c2 (by rfl) (by rfl) (by rfl) t2 ?_)
                | (refine stepB_append_run (by rfl) (.tmp 54) (.tmp 57) 22 a2 (.slice none 0 0) a3 (by rfl) (by rfl) (by rfl) r3 ?_)
                | (refine stepB_append_run (by rfl) (.tmp 54) (.tmp 57) 22 c2 (.slice none 0 0) c3 (by rfl) (by rfl) (by rfl) t3 ?_))
            all_goals
              clear r1 r2 r3 t1 t2 t3 z0 z1 z2 z3 y1 y2 y3 g1 g2
              first
                | (obtain ⟨n', c', a', rfl, e4, h4⟩ := HA.out ()
                   have H4 := Lib.hid h4
                   clear h4
                   go_wp2_with fail
                   go_roundw
                   case rel => exact ⟨j + 1, n', c', a', rfl, by go_num, by omega, by omega, H4⟩
                   case measure => simp [RowKit.intOf]; omega)
                | (obtain ⟨n', c', a', rfl, e4, h4⟩ := HB.out ()
                   have H4 := Lib.hid h4
                   clear h4
                   go_wp2_with fail
                   go_roundw
                   case rel => exact ⟨j + 1, n', c', a', rfl, by go_num, by omega, by omega, H4⟩
                   case measure => simp [RowKit.intOf]; omega)
          · by_cases hcq : c = q
            · subst hcq
              have hi0 : (0 : Int) ≤ (c : Int) := by omega
              obtain ⟨g, rfl, hp2⟩ : ∃ g, a = some ⟨g, 0, none⟩ ∧ Hid (∀ W, Below wr.heap.size wr W → TextsAt W (.slice (some ⟨g, 0, none⟩) 0 0) (l.drop c)) := by
                rcases (HOW.out wr (Below.refl _ _)).2 with h | ⟨g, e, _, _⟩
                · omega
                · refine ⟨g, e, Lib.hid (fun W hb => ?_)⟩
                  rcases (HOW.out W hb).2 with h | ⟨g', e', _, h⟩
                  · omega
                  · rw [e] at e'
                    injection e' with e'
                    injection e' with e' _ _
                    subst e'
                    rwa [if_pos rfl, Nat.sub_self] at h
              go_wp2_with fail
              go_quiet (fail)
              generalize hw6 : World.drewN _ _ = w6
              have HB6 : Hid (Below wr.heap.size wr w6) := Lib.hid (by rw [← hw6]; exact below_drewN (Below.refl _ _) _)
              clear hw6
              go_wp2_with fail
              go_quiet (fail)
              generalize hw8 : World.drewN _ _ = w8
              have HB8 : Hid (Below wr.heap.size wr w8) := Lib.hid (by rw [← hw8]; exact below_drewN HB6.out _)
              clear hw8
              have HP1 := Lib.hid (HOW.out w8 HB8.out).1
              have HP2 := Lib.hid (hp2.out w8 HB8.out)
              have hp1 := HP1.out.below (Below.drew (Below.refl w8.heap.size w8))
              have hp2 := HP2.out.below (Below.drew (Below.refl w8.heap.size w8))
              obtain ⟨⟨a1, w1, a2, w2, a3, w3, r1, r2, r3, q3, b1, b2, b3⟩, ⟨c1, v1, c2, v2, c3, v3, t1, t2, t3, s3, d1, d2, d3⟩⟩ := sortStep (x := x) hp1 hp2 (by have := HNL.out; rw [List.length_take, List.length_drop]; omega)
              have z0 := HX1.out w8 HB8.out
              have z1 : w1.cell? ⟨b, off + j, none⟩ = some (.string x) := HX1.out w1 (HB8.out.drew.trans (b1.mono HB8.out.size))
              have z2 : w2.cell? ⟨b, off + j, none⟩ = some (.string x) := HX1.out w2 (HB8.out.drew.trans (b2.mono HB8.out.size))
              have z3 : w3.cell? ⟨b, off + j, none⟩ = some (.string x) := HX1.out w3 (HB8.out.drew.trans (b3.mono HB8.out.size))
              have y1 : v1.cell? ⟨b, off + j, none⟩ = some (.string x) := HX1.out v1 (HB8.out.drew.trans (d1.mono HB8.out.size))
              have y2 : v2.cell? ⟨b, off + j, none⟩ = some (.string x) := HX1.out v2 (HB8.out.drew.trans (d2.mono HB8.out.size))
              have y3 : v3.cell? ⟨b, off + j, none⟩ = some (.string x) := HX1.out v3 (HB8.out.drew.trans (d3.mono HB8.out.size))
              have HA : Hid (∀ _ : Unit, ∃ (n' c' : Nat) (a' : Option Addr), a3 = .slice a' n' c' ∧ n' = c + 1 ∧ ((n' = 0 → a' = none ∧ c' = 0) ∧ OwnT w3 w.heap.size (.slice a' n' c') (refS (ss.take (j + 1))) ∧ Below w.heap.size w w3)) := Lib.hid (fun _ => sort_new HNX.out HEQ.out q3 HNL.out hq (by have := HB8.out.size; have := HQ.out.2.2.size; exact Nat.le_trans (HQ.out.2.2.size) (HB8.out.size)) (HQ.out.2.2.trans ((HB8.out.drew.trans (b3.mono HB8.out.size)).mono HQ.out.2.2.size)))
              have HB : Hid (∀ _ : Unit, ∃ (n' c' : Nat) (a' : Option Addr), c3 = .slice a' n' c' ∧ n' = c + 1 ∧ ((n' = 0 → a' = none ∧ c' = 0) ∧ OwnT v3 w.heap.size (.slice a' n' c') (refS (ss.take (j + 1))) ∧ Below w.heap.size w v3)) := Lib.hid (fun _ => sort_new HNX.out HEQ.out s3 HNL.out hq (by have := HB8.out.size; have := HQ.out.2.2.size; exact Nat.le_trans (HQ.out.2.2.size) (HB8.out.size)) (HQ.out.2.2.trans ((HB8.out.drew.trans (d3.mono HB8.out.size)).mono HQ.out.2.2.size)))
              have g1 := (Below.alloc (Below.refl w1.heap.size w1) (Nat.le_refl _) (.cells #[.string x] 9)).cell (p := ⟨b, off + j, none⟩) (World.block_lt_of_cell? w1 _ z1)
              have g2 := (Below.alloc (Below.refl w8.heap.size w8.drew) (Nat.le_refl _) (.cells #[.string x] 9)).cell (p := ⟨b, off + j, none⟩) (World.block_lt_of_cell? w8 _ z0)
              rw [z1] at g1
              replace g2 : (w8.drew.alloc (.cells #[.string x] 9)).cell? ⟨b, off + j, none⟩ = some (.string x) := g2.trans z0
              clear hp1 hp2 q3 s3 b1 b2 b3 d1 d2 d3
              go_wp2_with fail
              go_region_held3 (fun w' => w'.cell? ⟨b, off + j, none⟩ = some (.string x)) (first | exact z0 | exact z1 | exact z2 | exact z3 | exact y1 | exact y2 | exact y3 | exact g1 | exact g2)
                (first
                  | (refine stepB_append_run (by rfl) (.const (.slice none 0 0)) (.tmp 47) 22 (.slice none 0 0) (.slice (some ⟨g, 0, none⟩) c c) a1 (by rfl) (by rfl) (by rfl) r1 ?_)
                  | (refine stepB_append_run (by rfl) (.const (.slice none 0 0)) (.tmp 47) 22 (.slice none 0 0) (.slice (some ⟨g, 0, none⟩) c c) c1 (by rfl) (by rfl) (by rfl) t1 ?_)
                  | (refine stepB_append_run (by rfl) (.tmp 48) (.tmp 53) 22 a1 (.slice (some ⟨w1.heap.size, 0, none⟩) 1 1) a2 (by rfl) (by rfl) (by rfl) r2 ?_)
                  | (refine stepB_append_run (by rfl) (.tmp 48) (.tmp 53) 22 c1 (.slice (some ⟨w8.heap.size, 0, none⟩) 1 1) c2 (by rfl) (by rfl) (by rfl) t2 ?_)
                  | (refine stepB_append_run (by rfl) (.tmp 54) (.tmp 57) 22 a2 (.slice (some ⟨g, 0, none⟩) 0 0) a3 (by rfl) (by rfl) (by rfl) r3 ?_)
                  | (refine stepB_append_run (by rfl) (.tmp 54) (.tmp 57) 22 c2 (.slice (some ⟨g, 0, none⟩) 0 0) c3 (by rfl) (by rfl) (by rfl) t3 ?_))
              all_goals
                clear r1 r2 r3 t1 t2 t3 z0 z1 z2 z3 y1 y2 y3 g1 g2
                first
                  | (obtain ⟨n', c', a', rfl, e4, h4⟩ := HA.out ()
                     have H4 := Lib.hid h4
                     clear h4
                     go_wp2_with fail
                     go_roundw
                     case rel => exact ⟨j + 1, n', c', a', rfl, by go_num, by omega, by omega, H4⟩
                     case measure => simp [RowKit.intOf]; omega)
                  | (obtain ⟨n', c', a', rfl, e4, h4⟩ := HB.out ()
                     have H4 := Lib.hid h4
                     clear h4
                     go_wp2_with fail
                     go_roundw
                     case rel => exact ⟨j + 1, n', c', a', rfl, by go_num, by omega, by omega, H4⟩
                     case measure => simp [RowKit.intOf]; omega)
            · obtain ⟨g, rfl, hcc, hp2⟩ : ∃ g, a = some ⟨g, 0, none⟩ ∧ q ≤ c ∧ Hid (∀ W, Below wr.heap.size wr W → TextsAt W (.slice (some ⟨g, q, none⟩) 0 (c - q)) (l.drop q)) := by
                rcases (HOW.out wr (Below.refl _ _)).2 with h | ⟨g, e, hcc, _⟩
                · omega
                · refine ⟨g, e, hcc, Lib.hid (fun W hb => ?_)⟩
                  rcases (HOW.out W hb).2 with h | ⟨g', e', _, h⟩
                  · omega
                  · rw [e] at e'
                    injection e' with e'
                    injection e' with e' _ _
                    subst e'
                    rwa [if_neg hcq, Nat.sub_self] at h
              have hi0 : (0 : Int) ≤ (q : Int) := by omega
              have hi1 : (q : Int) ≤ (c : Int) := by omega
              go_wp2_with fail
              go_quiet (fail)
              generalize hw6 : World.drewN _ _ = w6
              have HB6 : Hid (Below wr.heap.size wr w6) := Lib.hid (by rw [← hw6]; exact below_drewN (Below.refl _ _) _)
              clear hw6
              go_wp2_with fail
              go_quiet (fail)
              generalize hw8 : World.drewN _ _ = w8
              have HB8 : Hid (Below wr.heap.size wr w8) := Lib.hid (by rw [← hw8]; exact below_drewN HB6.out _)
              clear hw8
              have HP1 := Lib.hid (HOW.out w8 HB8.out).1
              have HP2 := Lib.hid (hp2.out w8 HB8.out)
              have hp1 := HP1.out.below (Below.drew (Below.refl w8.heap.size w8))
              have hp2 := HP2.out.below (Below.drew (Below.refl w8.heap.size w8))
              obtain ⟨⟨a1, w1, a2, w2, a3, w3, r1, r2, r3, q3, b1, b2, b3⟩, ⟨c1, v1, c2, v2, c3, v3, t1, t2, t3, s3, d1, d2, d3⟩⟩ := sortStep (x := x) hp1 hp2 (by have := HNL.out; rw [List.length_take, List.length_drop]; omega)
              have z0 := HX1.out w8 HB8.out
              have z1 : w1.cell? ⟨b, off + j, none⟩ = some (.string x) := HX1.out w1 (HB8.out.drew.trans (b1.mono HB8.out.size))
              have z2 : w2.cell? ⟨b, off + j, none⟩ = some (.string x) := HX1.out w2 (HB8.out.drew.trans (b2.mono HB8.out.size))
              have z3 : w3.cell? ⟨b, off + j, none⟩ = some (.string x) := HX1.out w3 (HB8.out.drew.trans (b3.mono HB8.out.size))
              have y1 : v1.cell? ⟨b, off + j, none⟩ = some (.string x) := HX1.out v1 (HB8.out.drew.trans (d1.mono HB8.out.size))
              have y2 : v2.cell? ⟨b, off + j, none⟩ = some (.string x) := HX1.out v2 (HB8.out.drew.trans (d2.mono HB8.out.size))
              have y3 : v3.cell? ⟨b, off + j, none⟩ = some (.string x) := HX1.out v3 (HB8.out.drew.trans (d3.mono HB8.out.size))
              have HA : Hid (∀ _ : Unit, ∃ (n' c' : Nat) (a' : Option Addr), a3 = .slice a' n' c' ∧ n' = q + 1 ∧ ((n' = 0 → a' = none ∧ c' = 0) ∧ OwnT w3 w.heap.size (.slice a' n' c') (refS (ss.take (j + 1))) ∧ Below w.heap.size w w3)) := Lib.hid (fun _ => sort_new HNX.out HEQ.out q3 HNL.out hq (by have := HB8.out.size; have := HQ.out.2.2.size; exact Nat.le_trans (HQ.out.2.2.size) (HB8.out.size)) (HQ.out.2.2.trans ((HB8.out.drew.trans (b3.mono HB8.out.size)).mono HQ.out.2.2.size)))
              have HB : Hid (∀ _ : Unit, ∃ (n' c' : Nat) (a' : Option Addr), c3 = .slice a' n' c' ∧ n' = q + 1 ∧ ((n' = 0 → a' = none ∧ c' = 0) ∧ OwnT v3 w.heap.size (.slice a' n' c') (refS (ss.take (j + 1))) ∧ Below w.heap.size w v3)) := Lib.hid (fun _ => sort_new HNX.out HEQ.out s3 HNL.out hq (by have := HB8.out.size; have := HQ.out.2.2.size; exact Nat.le_trans (HQ.out.2.2.size) (HB8.out.size)) (HQ.out.2.2.trans ((HB8.out.drew.trans (d3.mono HB8.out.size)).mono HQ.out.2.2.size)))
              have g1 := (Below.alloc (Below.refl w1.heap.size w1) (Nat.le_refl _) (.cells #[.string x] 9)).cell (p := ⟨b, off + j, none⟩) (World.block_lt_of_cell? w1 _ z1)
              have g2 := (Below.alloc (Below.refl w8.heap.size w8.drew) (Nat.le_refl _) (.cells #[.string x] 9)).cell (p := ⟨b, off + j, none⟩) (World.block_lt_of_cell? w8 _ z0)
              rw [z1] at g1
              replace g2 : (w8.drew.alloc (.cells #[.string x] 9)).cell? ⟨b, off + j, none⟩ = some (.string x) := g2.trans z0
              clear hp1 hp2 q3 s3 b1 b2 b3 d1 d2 d3
              go_wp2_with fail
              go_region_held3 (fun w' => w'.cell? ⟨b, off + j, none⟩ = some (.string x)) (first | exact z0 | exact z1 | exact z2 | exact z3 | exact y1 | exact y2 | exact y3 | exact g1 | exact g2)
                (first
                  | (refine stepB_append_run (by rfl) (.const (.slice none 0 0)) (.tmp 47) 22 (.slice none 0 0) (.slice (some ⟨g, 0, none⟩) q c) a1 (by rfl) (by rfl) (by rfl) r1 ?_)
                  | (refine stepB_append_run (by rfl) (.const (.slice none 0 0)) (.tmp 47) 22 (.slice none 0 0) (.slice (some ⟨g, 0, none⟩) q c) c1 (by rfl) (by rfl) (by rfl) t1 ?_)
                  | (refine stepB_append_run (by rfl) (.tmp 48) (.tmp 53) 22 a1 (.slice (some ⟨w1.heap.size, 0, none⟩) 1 1) a2 (by rfl) (by rfl) (by rfl) r2 ?_)
                  | (refine stepB_append_run (by rfl) (.tmp 48) (.tmp 53) 22 c1 (.slice (some ⟨w8.heap.size, 0, none⟩) 1 1) c2 (by rfl) (by rfl) (by rfl) t2 ?_)
                  | (refine stepB_append_run (by rfl) (.tmp 54) (.tmp 57) 22 a2 (.slice (some ⟨g, q, none⟩) 0 (c - q)) a3 (by rfl) (by rfl) (by rfl) r3 ?_)
                  | (refine stepB_append_run (by rfl) (.tmp 54) (.tmp 57) 22 c2 (.slice (some ⟨g, q, none⟩) 0 (c - q)) c3 (by rfl) (by rfl) (by rfl) t3 ?_))
              all_goals
                clear r1 r2 r3 t1 t2 t3 z0 z1 z2 z3 y1 y2 y3 g1 g2
                first
                  | (obtain ⟨n', c', a', rfl, e4, h4⟩ := HA.out ()
                     have H4 := Lib.hid h4
                     clear h4
                     go_wp2_with fail
                     go_roundw
                     case rel => exact ⟨j + 1, n', c', a', rfl, by go_num, by omega, by omega, H4⟩
                     case measure => simp [RowKit.intOf]; omega)
                  | (obtain ⟨n', c', a', rfl, e4, h4⟩ := HB.out ()
                     have H4 := Lib.hid h4
                     clear h4
                     go_wp2_with fail
                     go_roundw
                     case rel => exact ⟨j + 1, n', c', a', rfl, by go_num, by omega, by omega, H4⟩
                     case measure => simp [RowKit.intOf]; omega)
    · have hltz : ¬ (j : Int) < (N : Int) := by omega
      obtain rfl : j = N := by omega
      go_wp2
      go_ret
      refine ⟨_, rfl, ?_, HI.out.2.2⟩
      have := HI.out.2.1
      rwa [List.take_of_length_le (by rw [← HN.out]; exact Nat.le_refl _)] at this
end Go.Proofs.YtgbknjpjhkegdaaGreat
