/-
  The walk of ValueMerges.
-/
import Derived.Test.YtnehamkpeeadjaaValU
namespace Go.Proofs.Ytnehamkpeeadjaa
open Go.RowKit Held

/-- The call's guards let in no more. -/
def manyB (a b l m : Nat) : Bool := decide ((60 : Int) < a) || decide ((60 : Int) < b) || decide ((60 : Int) < l) || decide ((60 : Int) < m)

theorem PlAt.form {w : World} {v : Value} {xs : List Pl} (h : PlAt w v xs) : ∃ a c, v = .slice a xs.length c := by
  obtain ⟨a, c, h, _⟩ := h
  exact ⟨a, c, h⟩

set_option maxRecDepth 100000 in
set_option maxHeartbeats 1600000 in
theorem ValueMerges_out (x y u v : Value) (ps qs : List Pl) (ls ms : List Stk) (w : World) (hx : PlIn w x ps) (hy : PlIn w y qs) (hu : StocksAt w u ls) (hv : StocksAt w v ms) (hg : manyB ps.length qs.length ls.length ms.length = true) :
    Calls Try.prog 6 #[x, y, u, v] w fun e w' => e = .returned (.bool true) ∧ Below w.heap.size w w' := by
  obtain ⟨a1, c1, rfl⟩ := hx.1.form
  obtain ⟨a2, c2, rfl⟩ := hy.1.form
  obtain ⟨a3, c3, rfl⟩ := hu.form
  obtain ⟨a4, c4, rfl⟩ := hv.form
  clear hx hy hu hv
  unfold manyB at hg
  obtain ⟨b1, h1⟩ : ∃ b1, decide ((60 : Int) < ps.length) = b1 := ⟨_, rfl⟩
  obtain ⟨b2, h2⟩ : ∃ b2, decide ((60 : Int) < qs.length) = b2 := ⟨_, rfl⟩
  obtain ⟨b3, h3⟩ : ∃ b3, decide ((60 : Int) < ls.length) = b3 := ⟨_, rfl⟩
  obtain ⟨b4, h4⟩ : ∃ b4, decide ((60 : Int) < ms.length) = b4 := ⟨_, rfl⟩
  rw [h1, h2, h3, h4] at hg
  have hcase : b1 = true ∨ (b1 = false ∧ b2 = true) ∨ (b1 = false ∧ b2 = false ∧ b3 = true) ∨ (b1 = false ∧ b2 = false ∧ b3 = false ∧ b4 = true) := by
    cases b1 <;> cases b2 <;> cases b3 <;> cases b4 <;> simp_all
  clear hg
  rcases hcase with rfl | ⟨rfl, rfl⟩ | ⟨rfl, rfl, rfl⟩ | ⟨rfl, rfl, rfl, rfl⟩
  all_goals
    go_enter Try.func6, Try.ntmps6
    go_wp2_with (go_at_call 7; refine (alive_any _).mono ?_; rintro e w2 ⟨rfl, hb2⟩)
    go_ret
    exact ⟨rfl, hb2⟩

theorem small_zero (ps : List Pl) : Small (ps.take 0) := fun p hp => by simp at hp
theorem small_next {ps : List Pl} {k : Nat} (h : Small (ps.take k)) (hk : k < ps.length) (h0 : 0 ≤ (ps.getD k (ByteArray.empty, 0)).2) (h1 : (ps.getD k (ByteArray.empty, 0)).2 ≤ 1125899906842624) : Small (ps.take (k + 1)) := by
  rw [take_snoc' (ByteArray.empty, (0 : Int)) hk]
  intro p hp
  rcases List.mem_append.1 hp with hp | hp
  · exact h p hp
  · simp at hp; subst hp; exact ⟨by simpa using h0, by simpa using h1⟩

theorem pl_cells {w : World} {a : Option Addr} {ps : List Pl} {k : Nat} (h : ps = [] ∨ ∃ g off, a = some ⟨g, off, none⟩ ∧ g < w.heap.size ∧ ∀ i, i < ps.length → w.cell? ⟨g, off + i * 2, none⟩ = some (.string (ps.getD i (ByteArray.empty, 0)).1) ∧ w.cell? ⟨g, off + i * 2 + 1, none⟩ = some (.int .i64 (ps.getD i (ByteArray.empty, 0)).2)) (hk : k < ps.length) :
    ∃ g off, a = some ⟨g, off, none⟩ ∧ w.cell? ⟨g, off + k * 2 + 1, none⟩ = some (.int .i64 (ps.getD k (ByteArray.empty, 0)).2) := by
  rcases h with h | ⟨g, off, e, _, hc⟩
  · rw [h] at hk; simp at hk
  · exact ⟨g, off, e, (hc k hk).2⟩

theorem mergeF_len (ps : List Pl) : (mergeF ps).length ≤ ps.length := by
  have h1 : (mergeF ps).length ≤ (namesF ps).length := by
    unfold mergeF; rw [List.length_map]; exact List.length_filter_le _ _
  have h2 : (namesF ps).length ≤ ps.length := by
    rw [namesF, keysV_length]
    have : ∀ (l : List Pl) (D : DH), TextKeys D → Maps.size (l.foldl (fun D p => putV D p.1 (.bool true)) D) ≤ Maps.size D + l.length := by
      intro l
      induction l with
      | nil => intro D _; simp
      | cons p r ih =>
        intro D hD
        have h := ih (putV D p.1 (.bool true)) (hD.put _ _)
        have h3 : Maps.size (putV D p.1 (.bool true)) ≤ Maps.size D + 1 := by
          unfold putV
          rw [Maps.size_put hD.tidy]
          split <;> omega
        rw [List.foldl_cons, List.length_cons]
        omega
    have := this ps (.map []) textKeys_none
    simpa [nameD, Maps.size] using this
  omega

theorem mergeF_wf {ps : List Pl} (h : PlWf ps) : PlWf (mergeF ps) := fun p hp => by
  unfold mergeF at hp
  obtain ⟨s, hs, rfl⟩ := List.mem_map.1 hp
  obtain ⟨q, hq, e⟩ := (mem_names ps s).1 (List.mem_filter.1 hs).1
  refine ⟨?_, by rw [← e]; exact (h q hq).2⟩
  show i64 (valF ps s)
  unfold valF addF i64
  split
  · simp only; omega
  · simp only; split <;> omega

/-- The four ways of three worths. -/
def Ways4 (u e v f x g : Int) : Prop :=
  (e ≠ 0 ∧ g ≠ 0) ∨ (e = 0 ∧ f ≠ 0 ∧ g ≠ 0) ∨ (e = 0 ∧ f = 0 ∧ 1152921504606846976 < u + v) ∨ (e = 0 ∧ f = 0 ∧ u + v ≤ 1152921504606846976 ∧ g = 0 ∧ x = u + v)
theorem ways4 (l m : List Stk) : Ways4 (worthAll 0 l).1 (worthAll 0 l).2 (worthAll 0 m).1 (worthAll 0 m).2 (worthAll 0 (l ++ m)).1 (worthAll 0 (l ++ m)).2 := by
  obtain ⟨h1, h2⟩ := worths_law l m
  unfold Ways4
  by_cases e : (worthAll 0 l).2 = 0
  · by_cases f : (worthAll 0 m).2 = 0
    · by_cases h : (worthAll 0 l).1 + (worthAll 0 m).1 ≤ 1152921504606846976
      · exact .inr (.inr (.inr ⟨e, f, h, (h1 e f h).1, (h1 e f h).2⟩))
      · exact .inr (.inr (.inl ⟨e, f, by omega⟩))
    · refine .inr (.inl ⟨e, f, ?_⟩)
      rcases h2 with h2 | h2
      · exact absurd h2.2 f
      · exact h2
  · refine .inl ⟨e, ?_⟩
    rcases h2 with h2 | h2
    · exact absurd h2.1 e
    · exact h2
theorem worthAll_bd (l : List Stk) : 0 ≤ (worthAll 0 l).1 ∧ (worthAll 0 l).1 ≤ 1152921504606846976 := by
  rcases worth_tot l 0 (by omega) (by omega) with ⟨_, h, e⟩ | ⟨_, _, e⟩
  · rw [e]; have := totW_nonneg l; simp only; omega
  · rw [e]; omega

set_option maxRecDepth 100000 in
set_option maxHeartbeats 3200000 in
theorem ValueMerges_in (x y u v : Value) (ps qs : List Pl) (ls ms : List Stk) (w : World) (hx : PlIn w x ps) (hy : PlIn w y qs) (hu : StocksAt w u ls) (hv : StocksAt w v ms) (hg : manyB ps.length qs.length ls.length ms.length = false) :
    Calls Try.prog 6 #[x, y, u, v] w fun e w' => e = .returned (.bool true) ∧ Below w.heap.size w w' := by
  have HX := Lib.hid hx
  have HY := Lib.hid hy
  have HU := Lib.hid hu
  have HV := Lib.hid hv
  obtain ⟨a1, c1, rfl, hc1⟩ := hx.1
  obtain ⟨a2, c2, rfl, hc2⟩ := hy.1
  obtain ⟨a3, c3, rfl⟩ := hu.form
  obtain ⟨a4, c4, rfl⟩ := hv.form
  obtain ⟨na, hna⟩ : ∃ n, n = ps.length := ⟨_, rfl⟩
  obtain ⟨nb, hnb⟩ : ∃ n, n = qs.length := ⟨_, rfl⟩
  obtain ⟨nl, hnl⟩ : ∃ n, n = ls.length := ⟨_, rfl⟩
  obtain ⟨nm, hnm⟩ : ∃ n, n = ms.length := ⟨_, rfl⟩
  rw [← hna] at HX hg ⊢
  rw [← hnb] at HY hg ⊢
  rw [← hnl] at HU hg ⊢
  rw [← hnm] at HV hg ⊢
  have HNA := Lib.hid hna
  have HNB := Lib.hid hnb
  have HNL := Lib.hid hnl
  have HNM := Lib.hid hnm
  have HC1 := Lib.hid hc1
  have HC2 := Lib.hid hc2
  simp only [manyB, Bool.or_eq_false_iff] at hg
  obtain ⟨⟨⟨b1, b2⟩, b3⟩, b4⟩ := hg
  have HG := Lib.hid (show na ≤ 60 ∧ nb ≤ 60 ∧ nl ≤ 60 ∧ nm ≤ 60 by simp at b1 b2 b3 b4; omega)
  have hna60 : (na : Int) ≤ 60 := by have := HG.out; omega
  have hnb60 : (nb : Int) ≤ 60 := by have := HG.out; omega
  clear hna hnb hnl hnm hx hy hu hv hc1 hc2
  go_enter Try.func6, Try.ntmps6
  go_wp2_with fail
  go_loop [9] (fun i => ∃ k : Nat, i = .int .i64 k ∧ k ≤ na ∧ Hid (Small (ps.take k))) (fun i => na - (RowKit.intOf i).toNat)
  case atStart => exact ⟨0, rfl, Nat.zero_le _, Lib.hid (small_zero ps)⟩
  case round =>
    obtain ⟨k, rfl, hk, HS⟩ := hrel
    by_cases hlt : k < na
    · have hltz : (k : Int) < (na : Int) := by omega
      have hk0 : (0 : Int) ≤ (k : Int) := by omega
      have h2 : k < ps.length := by rw [← HNA.out]; exact hlt
      obtain ⟨g, off, rfl, hcell⟩ := pl_cells HC1.out h2
      have hnx := small_next HS.out h2
      obtain ⟨q, hq⟩ : ∃ q, q = (ps.getD k (ByteArray.empty, 0)).2 := ⟨_, rfl⟩
      rw [← hq] at hcell hnx
      clear hq h2
      by_cases q0 : q < 0
      · have q0' : decide (q < 0) = true := by simpa using q0
        clear hnx
        go_wp2_with (go_at_call 7; refine (alive_any _).mono ?_; rintro e w2 ⟨rfl, hb2⟩)
        go_ret
        exact ⟨rfl, hb2⟩
      · have q0' : decide (q < 0) = false := by simpa using q0
        by_cases q1 : 1125899906842624 < q
        · have q1' : decide (1125899906842624 < q) = true := by simpa using q1
          clear hnx
          go_wp2_with (go_at_call 7; refine (alive_any _).mono ?_; rintro e w2 ⟨rfl, hb2⟩)
          go_ret
          exact ⟨rfl, hb2⟩
        · have q1' : decide (1125899906842624 < q) = false := by simpa using q1
          have HS2 := Lib.hid (hnx (by omega) (by omega))
          clear hnx
          go_wp2_with fail
          go_round
          case rel => exact ⟨k + 1, by go_num, by omega, HS2⟩
          case measure => simp [RowKit.intOf]; omega
    · have hltz : ¬ (k : Int) < (na : Int) := by omega
      obtain rfl : k = na := by omega
      have HSA := Lib.hid (show Small ps by have := HS.out; rw [HNA.out, List.take_length] at this; exact this)
      clear HS
      go_wp2_with fail
      go_loop [10] (fun i => ∃ k : Nat, i = .int .i64 k ∧ k ≤ nb ∧ Hid (Small (qs.take k))) (fun i => nb - (RowKit.intOf i).toNat)
      case atStart => exact ⟨0, rfl, Nat.zero_le _, Lib.hid (small_zero qs)⟩
      case round =>
        obtain ⟨j, rfl, hj, HS⟩ := hrel
        by_cases hlj : j < nb
        · have hljz : (j : Int) < (nb : Int) := by omega
          have hj0 : (0 : Int) ≤ (j : Int) := by omega
          have h2 : j < qs.length := by rw [← HNB.out]; exact hlj
          obtain ⟨g, off, rfl, hcell⟩ := pl_cells HC2.out h2
          have hnx := small_next HS.out h2
          obtain ⟨q, hq⟩ : ∃ q, q = (qs.getD j (ByteArray.empty, 0)).2 := ⟨_, rfl⟩
          rw [← hq] at hcell hnx
          clear hq h2
          by_cases q0 : q < 0
          · have q0' : decide (q < 0) = true := by simpa using q0
            clear hnx
            go_wp2_with (go_at_call 7; refine (alive_any _).mono ?_; rintro e w2 ⟨rfl, hb2⟩)
            go_ret
            exact ⟨rfl, hb2⟩
          · have q0' : decide (q < 0) = false := by simpa using q0
            by_cases q1 : 1125899906842624 < q
            · have q1' : decide (1125899906842624 < q) = true := by simpa using q1
              clear hnx
              go_wp2_with (go_at_call 7; refine (alive_any _).mono ?_; rintro e w2 ⟨rfl, hb2⟩)
              go_ret
              exact ⟨rfl, hb2⟩
            · have q1' : decide (1125899906842624 < q) = false := by simpa using q1
              have HS2 := Lib.hid (hnx (by omega) (by omega))
              clear hnx
              go_wp2_with fail
              go_round
              case rel => exact ⟨j + 1, by go_num, by omega, HS2⟩
              case measure => simp [RowKit.intOf]; omega
        · have hljz : ¬ (j : Int) < (nb : Int) := by omega
          obtain rfl : j = nb := by omega
          have HSB := Lib.hid (show Small qs by have := HS.out; rw [HNB.out, List.take_length] at this; exact this)
          clear HS
          have la := HNA.out
          have lb := HNB.out
          have HLA := Lib.hid (show ps.length ≤ 60 ∧ qs.length ≤ 60 ∧ ls.length ≤ 60 ∧ ms.length ≤ 60 from ⟨by have := HG.out; have := HNA.out; omega, by have := HG.out; have := HNB.out; omega, by have := HG.out; have := HNL.out; omega, by have := HG.out; have := HNM.out; omega⟩)
          clear la lb
          obtain ⟨v1, w1, hr1, ho1, hb1⟩ := append_pls (w := w) (base := w.heap.size) (v := .slice none 0 0) (xs := []) (World.ownsRow_nil _ _ _ _) HX.out.1 (by have := HLA.out.1; simp; omega) (Nat.le_refl _) 28
          obtain ⟨v2, w2, hr2, ho2, hb2⟩ := append_pls ho1 (HY.out.1.below hb1) (by have := HLA.out; simp; omega) hb1.size 28
          rw [List.nil_append] at ho2
          have HR1 := Lib.hid hr1
          have HR2 := Lib.hid hr2
          have HB2 := Lib.hid (hb1.trans hb2)
          have HP2 := Lib.hid (pl_at ho2)
          clear hr1 ho1 hb1 hr2 ho2 hb2
          go_wp2_with (first
            | (at_builtin; refine wpList_append_run rfl _ _ _ _ _ _ rfl rfl rfl HR1.out ?_; clear HR1)
            | (at_builtin; refine wpList_append_run rfl _ _ _ _ _ _ rfl rfl rfl HR2.out ?_; clear HR2)
            | fail)
          refine (merge_any v2 (ps ++ qs) w2 HP2.out (fun p hp => by rcases List.mem_append.1 hp with hp | hp; exact HX.out.2 p hp; exact HY.out.2 p hp) (by have := HLA.out; simp; omega)).mono ?_
          rintro e w3 ⟨v3, rfl, ho3, hb3⟩
          have HQ3 := Lib.hid (pl_at ho3)
          have HB3 := Lib.hid (HB2.out.trans (hb3.mono HB2.out.size))
          clear ho3 hb3
          go_wp2_with fail
          refine (merge_any _ ps w3 (HX.out.1.below HB3.out) HX.out.2 (by have := HLA.out; omega)).mono ?_
          rintro e w4 ⟨v4, rfl, ho4, hb4⟩
          have HQ4 := Lib.hid (HQ3.out.below hb4)
          have HO4 := Lib.hid ho4
          have HB34 := Lib.hid hb4
          have HB4 := Lib.hid (HB3.out.trans (hb4.mono HB3.out.size))
          clear ho4 hb4
          go_wp2_with fail
          refine (merge_any _ qs w4 (HY.out.1.below HB4.out) HY.out.2 (by have := HLA.out; omega)).mono ?_
          rintro e w5 ⟨v5, rfl, ho5, hb5⟩
          have HQ5 := Lib.hid (HQ4.out.below hb5)
          have HB5 := Lib.hid (HB4.out.trans (hb5.mono HB4.out.size))
          have hm1 := mergeF_len ps
          have hm2 := mergeF_len qs
          have ho45 : OwnPl w5 w3.heap.size v4 (mergeF ps) := own_below HO4.out hb5
          obtain ⟨v6, w6, hr6, ho6, hb6⟩ := append_pls ho45 (pl_at ho5) (by have := HLA.out; omega) (Nat.le_trans HB34.out.size hb5.size) 28
          have HR6 := Lib.hid hr6
          have HQ6 := Lib.hid (HQ3.out.below ((HB34.out.trans (hb5.mono HB34.out.size)).trans hb6))
          have HP6 := Lib.hid (pl_at ho6)
          have HB6 := Lib.hid (HB5.out.trans (hb6.mono HB3.out.size))
          clear ho5 hb5 ho45 hr6 ho6 hb6 hm1 hm2
          go_wp2_with (at_builtin; refine wpList_append_run rfl _ _ _ _ _ _ rfl rfl rfl HR6.out ?_)
          refine (merge_any v6 (mergeF ps ++ mergeF qs) w6 HP6.out (fun p hp => by rcases List.mem_append.1 hp with hp | hp; exact mergeF_wf HX.out.2 p hp; exact mergeF_wf HY.out.2 p hp) (by have := HLA.out; have := mergeF_len ps; have := mergeF_len qs; simp; omega)).mono ?_
          rintro e w7 ⟨v7, rfl, ho7, hb7⟩
          have HQ7 := Lib.hid (HQ6.out.below hb7)
          have HB7 := Lib.hid (HB6.out.trans (hb7.mono HB6.out.size))
          have HP7 := Lib.hid (show PlAt w7 v7 (mergeF (ps ++ qs)) by rw [merges_law HSA.out HSB.out HLA.out.1 HLA.out.2.1]; exact pl_at ho7)
          clear ho7 hb7
          go_wp2_with fail
          refine (worths_any _ ls w7 (HU.out.below HB7.out)).mono ?_
          rintro e w8 ⟨rfl, hb8⟩
          have HQ8 := Lib.hid (HQ7.out.below hb8)
          have HP8 := Lib.hid (HP7.out.below hb8)
          have HB8 := Lib.hid (HB7.out.trans (hb8.mono HB7.out.size))
          clear hb8
          go_wp2_with fail
          refine (worths_any _ ms w8 (HV.out.below HB8.out)).mono ?_
          rintro e w9 ⟨rfl, hb9⟩
          have HQ9 := Lib.hid (HQ8.out.below hb9)
          have HP9 := Lib.hid (HP8.out.below hb9)
          have HB9 := Lib.hid (HB8.out.trans (hb9.mono HB8.out.size))
          clear hb9
          obtain ⟨vA, wA, hrA, hoA, hbA⟩ := append_stocks (w := w9) (base := w9.heap.size) (v := .slice none 0 0) (xs := []) (World.ownsRow_nil _ _ _ _) (HU.out.below HB9.out) (by have := HLA.out; simp; omega) (Nat.le_refl _) 22
          have HBA := Lib.hid (HB9.out.trans (hbA.mono HB9.out.size))
          obtain ⟨vB, wB, hrB, hoB, hbB⟩ := append_stocks hoA (HV.out.below HBA.out) (by have := HLA.out; simp; omega) hbA.size 22
          have HBB := Lib.hid (HBA.out.trans (hbB.mono HB9.out.size))
          have HQB := Lib.hid (HQ9.out.below (hbA.trans hbB))
          have HPB := Lib.hid (HP9.out.below (hbA.trans hbB))
          rw [List.nil_append] at hoB
          have HSB2 := Lib.hid (stocks_row hoB (by have := HLA.out; simp; omega) (fun x hx => by
            rcases List.mem_append.1 hx with hx | hx
            · exact HU.out.wf x hx
            · exact HV.out.wf x hx))
          have HRA := Lib.hid hrA
          have HRB := Lib.hid hrB
          clear hrA hoA hbA hrB hoB hbB
          go_wp2_with (first
            | (at_builtin; refine wpList_append_run rfl _ _ _ _ _ _ rfl rfl rfl HRA.out ?_; clear HRA)
            | (at_builtin; refine wpList_append_run rfl _ _ _ _ _ _ rfl rfl rfl HRB.out ?_; clear HRB)
            | fail)
          refine (worths_any vB (ls ++ ms) wB HSB2.out).mono ?_
          rintro e wC ⟨rfl, hbC⟩
          have HQC := Lib.hid (HQB.out.below hbC)
          have HPC := Lib.hid (HPB.out.below hbC)
          have HBC := Lib.hid (HBB.out.trans (hbC.mono HBB.out.size))
          clear hbC
          have hw4 := ways4 ls ms
          have hbd1 := worthAll_bd ls
          have hbd2 := worthAll_bd ms
          obtain ⟨r1, hr1⟩ : ∃ r, r = worthAll 0 ls := ⟨_, rfl⟩
          obtain ⟨r2, hr2⟩ : ∃ r, r = worthAll 0 ms := ⟨_, rfl⟩
          obtain ⟨r3, hr3⟩ : ∃ r, r = worthAll 0 (ls ++ ms) := ⟨_, rfl⟩
          rw [← hr1] at hw4 hbd1 ⊢
          rw [← hr2] at hw4 hbd2 ⊢
          rw [← hr3] at hw4 ⊢
          clear hr1 hr2 hr3
          obtain ⟨u1, e1⟩ := r1
          obtain ⟨u2, e2⟩ := r2
          obtain ⟨u3, e3⟩ := r3
          simp only at hbd1 hbd2
          obtain ⟨p1, p2⟩ := hbd1
          obtain ⟨p3, p4⟩ := hbd2
          have HML := Lib.hid (show (mergeF (ps ++ qs)).length ≤ 1000 by have h1 := mergeF_len (ps ++ qs); rw [List.length_append] at h1; have := HLA.out; omega)
          have HSAME := Lib.hid (fun W (h1 : PlAt W v3 (mergeF (ps ++ qs))) (h2 : PlAt W v7 (mergeF (ps ++ qs))) => samePl_any v3 v7 (mergeF (ps ++ qs)) W h1 h2 HML.out)
          rcases hw4 with ⟨t1, t2⟩ | ⟨t1, t2, t3⟩ | ⟨t1, t2, t3⟩ | ⟨t1, t2, t3, t4, t5⟩
          · have s1 : (e1 == 0) = false := by simpa using t1
            have s2 : (e3 != 0) = true := by simpa using t2
            have s3 : (e3 == 0) = false := by simpa using t2
            clear t1 t2
            go_wp2_with fail
            refine (alive_any _).mono ?_
            rintro e wD ⟨rfl, hbD⟩
            have HQD := Lib.hid (HQC.out.below hbD)
            have HPD := Lib.hid (HPC.out.below hbD)
            have HBD := Lib.hid (HBC.out.trans (hbD.mono HBC.out.size))
            clear hbD
            go_wp2_with fail
            refine (HSAME.out _ HQD.out HPD.out).mono ?_
            rintro e wE ⟨rfl, hbE⟩
            go_wp2
            go_ret
            exact ⟨rfl, HBD.out.trans (hbE.mono HBD.out.size)⟩
          · simp only at t1
            subst t1
            have s1 : (e2 == 0) = false := by simpa using t2
            have s2 : (e3 != 0) = true := by simpa using t3
            have s3 : (e3 == 0) = false := by simpa using t3
            clear t2 t3
            go_wp2_with fail
            refine (alive_any _).mono ?_
            rintro e wD ⟨rfl, hbD⟩
            have HQD := Lib.hid (HQC.out.below hbD)
            have HPD := Lib.hid (HPC.out.below hbD)
            have HBD := Lib.hid (HBC.out.trans (hbD.mono HBC.out.size))
            clear hbD
            go_wp2_with fail
            refine (HSAME.out _ HQD.out HPD.out).mono ?_
            rintro e wE ⟨rfl, hbE⟩
            go_wp2
            go_ret
            exact ⟨rfl, HBD.out.trans (hbE.mono HBD.out.size)⟩
          · simp only at t1 t2 t3
            subst t1
            subst t2
            have s1 : decide (u1 + u2 ≤ 1152921504606846976) = false := by simpa using t3
            clear t3
            go_wp2_with fail
            refine (alive_any _).mono ?_
            rintro e wD ⟨rfl, hbD⟩
            have HQD := Lib.hid (HQC.out.below hbD)
            have HPD := Lib.hid (HPC.out.below hbD)
            have HBD := Lib.hid (HBC.out.trans (hbD.mono HBC.out.size))
            clear hbD
            go_wp2_with fail
            refine (HSAME.out _ HQD.out HPD.out).mono ?_
            rintro e wE ⟨rfl, hbE⟩
            go_wp2
            go_ret
            exact ⟨rfl, HBD.out.trans (hbE.mono HBD.out.size)⟩
          · simp only at t1 t2 t3 t4 t5
            subst t1
            subst t2
            subst t4
            subst t5
            have s1 : decide (u1 + u2 ≤ 1152921504606846976) = true := by simpa using t3
            clear t3
            go_wp2_with fail
            refine (alive_any _).mono ?_
            rintro e wD ⟨rfl, hbD⟩
            have HQD := Lib.hid (HQC.out.below hbD)
            have HPD := Lib.hid (HPC.out.below hbD)
            have HBD := Lib.hid (HBC.out.trans (hbD.mono HBC.out.size))
            clear hbD
            go_wp2_with fail
            refine (HSAME.out _ HQD.out HPD.out).mono ?_
            rintro e wE ⟨rfl, hbE⟩
            go_wp2
            go_ret
            exact ⟨rfl, HBD.out.trans (hbE.mono HBD.out.size)⟩

theorem ValueMerges_walk (x : Value) (ps : List Pl) (y : Value) (qs : List Pl) (u : Value) (ls : List Stk) (v : Value) (ms : List Stk) (w : World) (hx : PlIn w x ps) (hy : PlIn w y qs) (hu : StocksAt w u ls) (hv : StocksAt w v ms) :
    Calls Try.prog 6 #[x, y, u, v] w fun e w' => e = .returned (.bool true) ∧ Below w.heap.size w w' := by
  cases hg : manyB ps.length qs.length ls.length ms.length with
  | true => exact ValueMerges_out x y u v ps qs ls ms w hx hy hu hv hg
  | false => exact ValueMerges_in x y u v ps qs ls ms w hx hy hu hv hg

end Go.Proofs.Ytnehamkpeeadjaa
