/-
  The walk of ValueEnough.
-/
import Derived.Test.YtnehamkpeeadjaaValO
namespace Go.Proofs.Ytnehamkpeeadjaa
open Go.RowKit

/-- The slice v reads as the pledges ps. -/
def PlAt (w : World) (v : Value) (ps : List (ByteArray × Int)) : Prop :=
  ∃ a c, v = .slice a ps.length c ∧ (ps = [] ∨ ∃ g off, a = some ⟨g, off, none⟩ ∧ g < w.heap.size ∧ ∀ i, i < ps.length → w.cell? ⟨g, off + i * 2, none⟩ = some (.string (ps.getD i (ByteArray.empty, 0)).1) ∧ w.cell? ⟨g, off + i * 2 + 1, none⟩ = some (.int .i64 (ps.getD i (ByteArray.empty, 0)).2))

theorem pl_at {w : World} {base : Nat} {v : Value} {ps : List (ByteArray × Int)} (h : OwnPl w base v ps) : PlAt w v ps := by
  by_cases hp : ps = []
  · subst hp
    rcases h.2 with ⟨rfl, _⟩ | ⟨g, cap, cur, rfl, _⟩
    · exact ⟨none, 0, rfl, .inl rfl⟩
    · exact ⟨_, cap, rfl, .inl rfl⟩
  · obtain ⟨g, cap, rfl, _, h1, _, h2⟩ := pl_cell h hp
    refine ⟨_, cap, rfl, .inr ⟨g, 0, rfl, h1, fun i hi => ?_⟩⟩
    have := h2 i hi
    rw [Nat.zero_add]
    simpa [List.getD, hi] using this

theorem PlAt.below {w w' : World} {v : Value} {xs : List (ByteArray × Int)} (hv : PlAt w v xs) (hb : Below w.heap.size w w') : PlAt w' v xs := by
  obtain ⟨a, c, h1, h4⟩ := hv
  refine ⟨a, c, h1, ?_⟩
  rcases h4 with h4 | ⟨b, off, e, hlt, hc⟩
  · exact .inl h4
  · exact .inr ⟨b, off, e, by have := hb.size; omega, fun i hi => by rw [hb.cell (p := ⟨b, _, none⟩) hlt, hb.cell (p := ⟨b, _, none⟩) hlt]; exact hc i hi⟩

theorem append_none {w : World} {base e size n : Nat} {v : Value} {xs : List Value} (h : w.ownsRow base e size v n xs) (i : TypeInfo) (t ty : TypeId) (ht : Try.prog.underlying t = some (.slice e)) (hi : Try.prog.info? e = some i) (c : Nat) :
    (Builtin.append_ #[t, t] ty #[v, .slice none 0 c]).run Try.prog w = .ok v w := by
  rcases h.2 with ⟨rfl, rfl⟩ | ⟨g, cap, cur, rfl, _, _, hnc, _⟩
  · simp [Builtin.append_, run_underlying ht, sizeOf, typeInfo, hi, Builtin.lenOf, Builtin.firstCells]
  · simp [Builtin.append_, run_underlying ht, sizeOf, typeInfo, hi, Builtin.lenOf, Builtin.firstCells, hnc, storeCells]

theorem append_stocks {w : World} {base : Nat} {v u : Value} {xs ys : List Stk} (hown : OwnSt w base v xs) (hu : StocksAt w u ys) (hl : xs.length + ys.length ≤ 1000) (hb : base ≤ w.heap.size) (ty : TypeId) :
    ∃ v' w', (Builtin.append_ #[22, 22] ty #[v, u]).run Try.prog w = .ok v' w' ∧ OwnSt w' base v' (xs ++ ys) ∧ Below base w w' := by
  obtain ⟨i0, hi, hz0, hz1, hz2⟩ := info_parts infoS
  obtain ⟨a, c, rfl, _, _, hcs⟩ := hu
  cases a with
  | none =>
    have hy : ys = [] := by
      rcases hcs with h | ⟨_, _, h, _⟩
      · exact h
      · cases h
    subst hy
    exact ⟨v, w, append_none hown i0 _ ty Try.underlying22 hi c, by rw [List.append_nil]; exact hown, Below.refl _ _⟩
  | some ad =>
    have hnews : ∀ j u, (stCells ys)[j]? = some u → w.cell? (ad.add j) = some u := by
      intro j u hju
      rcases hcs with h | ⟨b, off, h, _, hc⟩
      · subst h; simp [stCells] at hju
      · injection h with h
        subst h
        have hj : j < ys.length * 9 := by rw [← stCells_length]; exact (List.getElem?_eq_some_iff.1 hju).1
        have h1 := stCells_at ys (j / 9) (j % 9) (by omega) (by omega)
        have h2 := hc (j / 9) (j % 9) (by omega) (by omega)
        rw [show j / 9 * 9 + j % 9 = j by omega] at h1
        rw [show off + j / 9 * 9 + j % 9 = off + j by omega] at h2
        rw [Go.WideShapes.add_plain, h2, ← h1, hju]
    have h1 : ∀ u ∈ stCells ys, u.oneCell' = true := fun u hu => by
      obtain ⟨s, _, hs⟩ := List.mem_flatMap.1 hu
      exact stk_one s u hs
    obtain ⟨v', w', h2, h3, h4, _, _⟩ := run_append_own_at (P := Try.prog) w base 22 ty 27 i0 (.agg #[.string ByteArray.empty, .bool false, .bool false, .int .i64 0, .int .i64 0, .int .i64 0, .int .i64 0, .int .i64 0, .int .i64 0]) 9 72 Try.underlying22 hi hz0 hz1 hz2 rfl (by decide) v xs.length (stCells xs) hown ad ys.length c (stCells ys) (stCells_length ys)
      hnews h1 (by unfold maxLen; omega) (by omega) hb
    refine ⟨v', w', h2, ?_, (Below.refl _ _).grown h4 hb (own_base hown)⟩
    unfold OwnSt
    rw [stCells_append, List.length_append]
    exact h3

theorem StocksAt.form {w : World} {v : Value} {xs : List Stk} (h : StocksAt w v xs) : ∃ a c, v = .slice a xs.length c := by
  obtain ⟨a, c, h, _⟩ := h
  exact ⟨a, c, h⟩
theorem StocksAt.wf {w : World} {v : Value} {xs : List Stk} (h : StocksAt w v xs) : ∀ x ∈ xs, x.wf := by
  obtain ⟨a, c, _, _, h, _⟩ := h
  exact h

/-- The call's guards let in no more. -/
def enoughB (want less : Int) (n m : Nat) : Bool := decide ((40 : Int) < n) || decide ((40 : Int) < m) || decide (want < 0) || decide (less < 0) || decide (want < less)

set_option maxRecDepth 100000 in
set_option maxHeartbeats 1600000 in
theorem ValueEnough_out (want less : Int) (v u : Value) (xs ys : List Stk) (w : World) (hv : StocksAt w v xs) (hu : StocksAt w u ys) (hg : enoughB want less xs.length ys.length = true) :
    Calls Try.prog 4 #[.int .i64 want, .int .i64 less, v, u] w fun e w' => e = .returned (.bool true) ∧ Below w.heap.size w w' := by
  obtain ⟨a, c, rfl⟩ := hv.form
  obtain ⟨a2, c2, rfl⟩ := hu.form
  clear hv hu
  unfold enoughB at hg
  obtain ⟨b1, h1⟩ : ∃ b1, decide ((40 : Int) < xs.length) = b1 := ⟨_, rfl⟩
  obtain ⟨b2, h2⟩ : ∃ b2, decide ((40 : Int) < ys.length) = b2 := ⟨_, rfl⟩
  obtain ⟨b3, h3⟩ : ∃ b3, decide (want < 0) = b3 := ⟨_, rfl⟩
  obtain ⟨b4, h4⟩ : ∃ b4, decide (less < 0) = b4 := ⟨_, rfl⟩
  obtain ⟨b5, h5⟩ : ∃ b5, decide (want < less) = b5 := ⟨_, rfl⟩
  rw [h1, h2, h3, h4, h5] at hg
  have hcase : b1 = true ∨ (b1 = false ∧ b2 = true) ∨ (b1 = false ∧ b2 = false ∧ b3 = true) ∨ (b1 = false ∧ b2 = false ∧ b3 = false ∧ b4 = true) ∨ (b1 = false ∧ b2 = false ∧ b3 = false ∧ b4 = false ∧ b5 = true) := by
    cases b1 <;> cases b2 <;> cases b3 <;> cases b4 <;> cases b5 <;> simp_all
  clear hg
  rcases hcase with rfl | ⟨rfl, rfl⟩ | ⟨rfl, rfl, rfl⟩ | ⟨rfl, rfl, rfl, rfl⟩ | ⟨rfl, rfl, rfl, rfl, rfl⟩
  all_goals
    go_enter Try.func4, Try.ntmps4
    go_wp2_with (go_at_call 7; refine (alive_any _).mono ?_; rintro e w2 ⟨rfl, hb2⟩)
    go_ret
    exact ⟨rfl, hb2⟩

theorem pickis_ok {want : Int} {xs : List Stk} {base : Nat} {w : World} {v : Value} {k : Int} (h : PickIs want xs base w v k) (h0 : 0 ≤ want) (h1 : (pickF want xs).2 ≤ 0) : k = 0 ∧ PlAt w v (pickF want xs).1 := by
  rcases h with ⟨h, _⟩ | ⟨_, h, _⟩ | ⟨_, _, h, hk⟩
  · omega
  · omega
  · exact ⟨hk, pl_at h⟩
theorem pickis_no {want : Int} {xs : List Stk} {base : Nat} {w : World} {v : Value} {k : Int} (h : PickIs want xs base w v k) (h0 : 0 ≤ want) (h1 : 0 < (pickF want xs).2) : k = 32 ∧ v = .slice none 0 0 := by
  rcases h with ⟨h, _⟩ | ⟨_, h, hk⟩ | ⟨_, h, _⟩
  · omega
  · exact ⟨hk.2, hk.1⟩
  · omega

set_option maxRecDepth 100000 in
set_option maxHeartbeats 1600000 in
theorem ValueEnough_no (want less : Int) (v u : Value) (xs ys : List Stk) (w : World) (hv : StocksAt w v xs) (hu : StocksAt w u ys) (hg : enoughB want less xs.length ys.length = false) (hw : i64 want) (hl : i64 less) (hp : 0 < (pickF want xs).2) :
    Calls Try.prog 4 #[.int .i64 want, .int .i64 less, v, u] w fun e w' => e = .returned (.bool true) ∧ Below w.heap.size w w' := by
  have HV := Lib.hid hv
  have HU := Lib.hid hu
  have HW := Lib.hid hw
  have HL := Lib.hid hl
  have HP := Lib.hid hp
  obtain ⟨a, c, rfl⟩ := hv.form
  obtain ⟨a2, c2, rfl⟩ := hu.form
  obtain ⟨n, hn⟩ : ∃ n, n = xs.length := ⟨_, rfl⟩
  obtain ⟨m, hm⟩ : ∃ m, m = ys.length := ⟨_, rfl⟩
  rw [← hn] at HV hg ⊢
  rw [← hm] at HU hg ⊢
  have HN := Lib.hid hn
  have HM := Lib.hid hm
  simp only [enoughB, Bool.or_eq_false_iff] at hg
  obtain ⟨⟨⟨⟨b1, b2⟩, b3⟩, b4⟩, b5⟩ := hg
  have HG := Lib.hid (show n ≤ 40 ∧ m ≤ 40 ∧ 0 ≤ want ∧ 0 ≤ less ∧ less ≤ want by simp at b1 b2 b3 b4 b5; omega)
  clear hn hm hv hu hw hl hp
  go_enter Try.func4, Try.ntmps4
  go_wp2_with fail
  refine (pick_any want _ xs w HV.out HW.out).mono ?_
  rintro e w1 ⟨hb1, v1, k1, rfl, hp1⟩
  obtain ⟨rfl, rfl⟩ := pickis_no hp1 HG.out.2.2.1 HP.out
  have HB1 := Lib.hid hb1
  clear hb1 hp1 b1 b2 b3 b4 b5
  go_wp2_with fail
  refine (pick_any less _ xs w1 (HV.out.below HB1.out) HL.out).mono ?_
  rintro e w2 ⟨hb2, v2, k2, rfl, _⟩
  have HB2 := Lib.hid (HB1.out.trans (hb2.mono HB1.out.size))
  clear hb2
  obtain ⟨v3, w3, hrun3, hown3, hb3⟩ := append_stocks (w := w2) (base := w.heap.size) (v := .slice none 0 0) (xs := []) (World.ownsRow_nil _ _ _ _) (HV.out.below HB2.out) (by have := HG.out.1; have := HN.out; simp; omega) HB2.out.size 22
  have HB3 := Lib.hid (HB2.out.trans hb3)
  obtain ⟨v4, w4, hrun4, hown4, hb4⟩ := append_stocks hown3 (HU.out.below HB3.out) (by have := HG.out; have := HN.out; have := HM.out; simp; omega) HB3.out.size 22
  have HB4 := Lib.hid (HB3.out.trans hb4)
  have HR3 := Lib.hid hrun3
  have HR4 := Lib.hid hrun4
  have HO4 := Lib.hid (stocks_row hown4 (by have := HG.out; have := HN.out; have := HM.out; simp; omega) (fun x hx => by
    rw [List.nil_append] at hx
    rcases List.mem_append.1 hx with hx | hx
    · exact HV.out.wf x hx
    · exact HU.out.wf x hx))
  clear hrun3 hrun4 hown3 hown4 hb3 hb4
  go_wp2_with (first
    | (at_builtin; refine wpList_append_run rfl _ _ _ _ _ _ rfl rfl rfl HR3.out ?_; clear HR3)
    | (at_builtin; refine wpList_append_run rfl _ _ _ _ _ _ rfl rfl rfl HR4.out ?_; clear HR4)
    | fail)
  refine (pick_any want _ _ w4 HO4.out HW.out).mono ?_
  rintro e w5 ⟨hb5, v5, k5, rfl, _⟩
  have HB5 := Lib.hid (HB4.out.trans (hb5.mono HB4.out.size))
  clear hb5
  go_wp2_with fail
  refine (pick_any 0 _ xs w5 (HV.out.below HB5.out) (by unfold i64; omega)).mono ?_
  rintro e w6 ⟨hb6, v6, k6, rfl, hp6⟩
  obtain ⟨rfl, hq6⟩ := pickis_ok hp6 (Int.le_refl _) (by rw [pick_done (Int.le_refl _)]; exact Int.le_refl _)
  rw [pick_done (Int.le_refl _)] at hq6
  obtain ⟨a6, c6, rfl, _⟩ := hq6
  have HB6 := Lib.hid (HB5.out.trans (hb6.mono HB5.out.size))
  clear hb6 hp6
  go_wp2_with fail
  go_loopw [17] (fun i wr => i = .int .i64 0 ∧ wr = w6) (fun _ _ => 0)
  case atStart => exact ⟨rfl, rfl⟩
  case round =>
    obtain ⟨rfl, rfl⟩ := hrel
    go_wp2_with (go_at_call 7; refine (alive_any _).mono ?_; rintro e w7 ⟨rfl, hb7⟩)
    go_ret
    exact ⟨rfl, HB6.out.trans (hb7.mono HB6.out.size)⟩

set_option maxRecDepth 100000 in
set_option maxHeartbeats 3200000 in
theorem ValueEnough_yes (want less : Int) (v u : Value) (xs ys : List Stk) (w : World) (hv : StocksAt w v xs) (hu : StocksAt w u ys) (hg : enoughB want less xs.length ys.length = false) (hw : i64 want) (hl : i64 less) (hp : (pickF want xs).2 ≤ 0) :
    Calls Try.prog 4 #[.int .i64 want, .int .i64 less, v, u] w fun e w' => e = .returned (.bool true) ∧ Below w.heap.size w w' := by
  have HV := Lib.hid hv
  have HU := Lib.hid hu
  have HW := Lib.hid hw
  have HL := Lib.hid hl
  have HP := Lib.hid hp
  obtain ⟨a, c, rfl⟩ := hv.form
  obtain ⟨a2, c2, rfl⟩ := hu.form
  obtain ⟨n, hn⟩ : ∃ n, n = xs.length := ⟨_, rfl⟩
  obtain ⟨m, hm⟩ : ∃ m, m = ys.length := ⟨_, rfl⟩
  rw [← hn] at HV hg ⊢
  rw [← hm] at HU hg ⊢
  have HN := Lib.hid hn
  have HM := Lib.hid hm
  simp only [enoughB, Bool.or_eq_false_iff] at hg
  obtain ⟨⟨⟨⟨b1, b2⟩, b3⟩, b4⟩, b5⟩ := hg
  have HG := Lib.hid (show n ≤ 40 ∧ m ≤ 40 ∧ 0 ≤ want ∧ 0 ≤ less ∧ less ≤ want by simp at b1 b2 b3 b4 b5; omega)
  clear hn hm hv hu hw hl hp
  go_enter Try.func4, Try.ntmps4
  go_wp2_with fail
  refine (pick_any want _ xs w HV.out HW.out).mono ?_
  rintro e w1 ⟨hb1, v1, k1, rfl, hp1⟩
  obtain ⟨rfl, hq1⟩ := pickis_ok hp1 HG.out.2.2.1 HP.out
  have HQ1 := Lib.hid hq1
  have HB1 := Lib.hid hb1
  clear hb1 hp1 b1 b2 b3 b4 b5 hq1
  go_wp2_with fail
  refine (pick_any less _ xs w1 (HV.out.below HB1.out) HL.out).mono ?_
  rintro e w2 ⟨hb2, v2, k2, rfl, hp2⟩
  obtain ⟨rfl, hq2⟩ := pickis_ok hp2 HG.out.2.2.2.1 (pick_less xs less want (.inr HG.out.2.2.2.2) HP.out)
  have HQ12 := Lib.hid (HQ1.out.below hb2)
  have HB2 := Lib.hid (HB1.out.trans (hb2.mono HB1.out.size))
  clear hb2 hp2 hq2
  obtain ⟨v3, w3, hrun3, hown3, hb3⟩ := append_stocks (w := w2) (base := w2.heap.size) (v := .slice none 0 0) (xs := []) (World.ownsRow_nil _ _ _ _) (HV.out.below HB2.out) (by have := HG.out.1; have := HN.out; simp; omega) (Nat.le_refl _) 22
  have HB3 := Lib.hid (HB2.out.trans (hb3.mono HB2.out.size))
  obtain ⟨v4, w4, hrun4, hown4, hb4⟩ := append_stocks hown3 (HU.out.below HB3.out) (by have := HG.out; have := HN.out; have := HM.out; simp; omega) hb3.size 22
  have HB4 := Lib.hid (HB3.out.trans (hb4.mono HB2.out.size))
  have HQ4 := Lib.hid (HQ12.out.below (hb3.trans hb4))
  have HR3 := Lib.hid hrun3
  have HR4 := Lib.hid hrun4
  have HO4 := Lib.hid (stocks_row hown4 (by have := HG.out; have := HN.out; have := HM.out; simp; omega) (fun x hx => by
    rw [List.nil_append] at hx
    rcases List.mem_append.1 hx with hx | hx
    · exact HV.out.wf x hx
    · exact HU.out.wf x hx))
  rw [List.nil_append] at HO4
  clear hrun3 hrun4 hown3 hown4 hb3 hb4
  go_wp2_with (first
    | (at_builtin; refine wpList_append_run rfl _ _ _ _ _ _ rfl rfl rfl HR3.out ?_; clear HR3)
    | (at_builtin; refine wpList_append_run rfl _ _ _ _ _ _ rfl rfl rfl HR4.out ?_; clear HR4)
    | fail)
  refine (pick_any want _ _ w4 HO4.out HW.out).mono ?_
  rintro e w5 ⟨hb5, v5, k5, rfl, hp5⟩
  have hmore := pick_more xs ys want HP.out
  obtain ⟨rfl, hq5⟩ := pickis_ok hp5 HG.out.2.2.1 (by rw [hmore]; exact HP.out)
  rw [hmore] at hq5
  have HQ5 := Lib.hid hq5
  have HQ15 := Lib.hid (HQ4.out.below hb5)
  have HB5 := Lib.hid (HB4.out.trans (hb5.mono HB4.out.size))
  clear hb5 hp5 hq5 hmore
  go_wp2_with fail
  refine (pick_any 0 _ xs w5 (HV.out.below HB5.out) (by unfold i64; omega)).mono ?_
  rintro e w6 ⟨hb6, v6, k6, rfl, hp6⟩
  obtain ⟨rfl, hq6⟩ := pickis_ok hp6 (Int.le_refl _) (by rw [pick_done (Int.le_refl _)]; exact Int.le_refl _)
  rw [pick_done (Int.le_refl _)] at hq6
  obtain ⟨a6, c6, rfl, _⟩ := hq6
  have HB6 := Lib.hid (HB5.out.trans (hb6.mono HB5.out.size))
  have hx1 := HQ15.out.below hb6
  have hx5 := HQ5.out.below hb6
  have hpl := pick_len xs want
  clear hb6 hp6 HQ1 HQ12 HQ4 HQ5 HQ15
  obtain ⟨ps, hps⟩ : ∃ ps, ps = (pickF want xs).1 := ⟨_, rfl⟩
  rw [← hps] at hx1 hx5 hpl
  clear hps
  obtain ⟨a1, c1, rfl, hc1⟩ := hx1
  obtain ⟨a5, c5, rfl, hc5⟩ := hx5
  obtain ⟨L, hL⟩ : ∃ L, L = ps.length := ⟨_, rfl⟩
  rw [← hL] at hpl ⊢
  have hL2 : L ≤ 40 := by have := HG.out.1; have := HN.out; omega
  have HLL := Lib.hid hL
  have HC1 := Lib.hid hc1
  have HC5 := Lib.hid hc5
  clear hL hpl hc1 hc5
  go_wp2_with fail
  go_loopw [17] (fun i wr => ∃ k : Nat, i = .int .i64 k ∧ k ≤ L ∧ Below w6.heap.size w6 wr) (fun i _ => (L - RowKit.intOf i).toNat)
  case atStart => exact ⟨0, rfl, Nat.zero_le _, Below.refl _ _⟩
  case round =>
    obtain ⟨k, rfl, hk, hbw⟩ := hrel
    have HB := Lib.hid hbw
    by_cases hlt : k < L
    · have hltz : (k : Int) < (L : Int) := by omega
      have hk0 : (0 : Int) ≤ (k : Int) := by omega
      have h2 : k < ps.length := by rw [← HLL.out]; exact hlt
      have hg1 : ∃ g off, a1 = some ⟨g, off, none⟩ ∧ wr.cell? ⟨g, off + k * 2, none⟩ = some (.string (ps.getD k (ByteArray.empty, 0)).1) ∧ wr.cell? ⟨g, off + k * 2 + 1, none⟩ = some (.int .i64 (ps.getD k (ByteArray.empty, 0)).2) := by
        rcases HC1.out with h | ⟨g, off, e, hg, hc⟩
        · rw [h] at h2; simp at h2
        · exact ⟨g, off, e, by rw [hbw.cell (p := ⟨g, _, none⟩) hg]; exact (hc k h2).1, by rw [hbw.cell (p := ⟨g, _, none⟩) hg]; exact (hc k h2).2⟩
      have hg5 : ∃ g off, a5 = some ⟨g, off, none⟩ ∧ wr.cell? ⟨g, off + k * 2, none⟩ = some (.string (ps.getD k (ByteArray.empty, 0)).1) ∧ wr.cell? ⟨g, off + k * 2 + 1, none⟩ = some (.int .i64 (ps.getD k (ByteArray.empty, 0)).2) := by
        rcases HC5.out with h | ⟨g, off, e, hg, hc⟩
        · rw [h] at h2; simp at h2
        · exact ⟨g, off, e, by rw [hbw.cell (p := ⟨g, _, none⟩) hg]; exact (hc k h2).1, by rw [hbw.cell (p := ⟨g, _, none⟩) hg]; exact (hc k h2).2⟩
      obtain ⟨q, hq⟩ : ∃ q, q = ps.getD k (ByteArray.empty, 0) := ⟨_, rfl⟩
      rw [← hq] at hg1 hg5
      obtain ⟨g1, o1, rfl, x1, x2⟩ := hg1
      obtain ⟨g5, o5, rfl, y1, y2⟩ := hg5
      have he : ∀ W : World, (Op.equalIn 10000 36 (.agg #[.string q.1, .int .i64 q.2]) (.agg #[.string q.1, .int .i64 q.2])).run Try.prog W = .ok true W := fun W => by rw [eq_pl]; simp
      clear hq h2
      go_wp2_with fail
      go_quiet (fail)
      go_wp2
      go_roundw
      case rel => exact ⟨k + 1, by go_num, by omega, below_drewN HB.out _⟩
      case measure => simp [RowKit.intOf]; omega
    · have hltz : ¬ (k : Int) < (L : Int) := by omega
      go_wp2_with (go_at_call 7; refine (alive_any _).mono ?_; rintro e w7 ⟨rfl, hb7⟩)
      go_ret
      have hb0 := HB6.out.trans (HB.out.mono HB6.out.size)
      exact ⟨rfl, hb0.trans (hb7.mono hb0.size)⟩

theorem ValueEnough_walk (want less : Int) (v : Value) (xs : List Stk) (u : Value) (ys : List Stk) (w : World) (hw : (Lit.int .i64 want).wf = true) (hl : (Lit.int .i64 less).wf = true) (hv : StocksAt w v xs) (hu : StocksAt w u ys) :
    Calls Try.prog 4 #[.int .i64 want, .int .i64 less, v, u] w fun e w' => e = .returned (.bool true) ∧ Below w.heap.size w w' := by
  cases hg : enoughB want less xs.length ys.length with
  | true => exact ValueEnough_out want less v u xs ys w hv hu hg
  | false =>
    rcases Int.lt_or_le 0 (pickF want xs).2 with h | h
    · exact ValueEnough_no want less v u xs ys w hv hu hg (i64_of hw) (i64_of hl) h
    · exact ValueEnough_yes want less v u xs ys w hv hu hg (i64_of hw) (i64_of hl) h

end Go.Proofs.Ytnehamkpeeadjaa
