/-
  The Book: Apart, of a Book that holds lists of one kind.
-/
import Derived.Test.YtgbknjpjhkegdaaGreatTxE
import Derived.Test.YtgbknjpjhkegdaaGreatBookE
namespace Go.Proofs.YtgbknjpjhkegdaaGreat
open Go.RowKit Go.Maps Go.WideMaps
set_option linter.unusedVariables false

/-- The Book's cells of the other kinds are nil. -/
def Others (bk : Nat) (w : World) : Prop := ∀ j, j < 34 → j ≠ 0 → j ≠ 1 → w.cell? ⟨bk, j, none⟩ = some (.slice none 0 0)
theorem Others.keep {T : Nat → Prop} {bk : Nat} {w w' : World} (h : Others bk w) (hb : bk < w.heap.size) (hw : Turned T w w') (ht : ¬ T bk) : Others bk w' := fun j h1 h2 h3 => (hw.cell (p := ⟨bk, j, none⟩) hb ht).trans (h j h1 h2 h3)

set_option maxRecDepth 100000 in
set_option maxHeartbeats 8000000 in
theorem apart_any (base bk : Nat) (L C : List (Value × List ByteArray)) (tv wv : Value) (w : World) (hk : KindT base bk w tv wv L C) (hE : Others bk w) (hb : base ≤ bk) (hLC : L.map (·.2) = C.map (·.2)) (hn : L.length ≤ 900) (hl : ∀ x ∈ L, x.2.length ≤ 300000 ∧ ∀ s ∈ x.2, s.size ≤ 140737488351232) :
    Calls Tryz.prog 17 #[.pointer (some ⟨bk, 0, none⟩)] w fun e w' => e = .returned (.bool true) ∧ Turned (BlocksOf L) w w' := by
  have hbk := hk.lt
  have HK := Lib.hid hk
  have HE := Lib.hid hE
  have hl2 : ∀ x ∈ L, x.2.length ≤ 1000000 ∧ ∀ s ∈ x.2, s.size ≤ 140737488351232 := fun x hx => ⟨by have := (hl x hx).1; omega, (hl x hx).2⟩
  have HST := Lib.hid (stillT_any base bk L C tv wv w hk hLC (by omega) hl2)
  have HLN := Lib.hid (fun x hx => (hl x hx).1)
  have HN := Lib.hid hn
  have HBB := Lib.hid hb
  clear hk hE hl2 hl hLC hn
  go_enter Tryz.func17, Tryz.ntmps17
  go_wp2_with fail
  refine HST.out.mono ?_
  rintro e w1 ⟨rfl, hb1⟩
  have HK1 := Lib.hid (HK.out.below hb1)
  have hbk1 := HK1.out.lt
  have HE1 := Lib.hid (HE.out.keep hbk (Turned.of_below hb1 (BlocksOf L)) fun ⟨x, hx, e⟩ => HK.out.lists.far' x hx e)
  have HT1 := Lib.hid (Turned.of_below hb1 (BlocksOf L))
  have HPT := Lib.hid (putT_any base bk L tv w1 HK1.out.lists HK1.out.c0 (by have := HN.out; omega) (fun x hx => by have := HLN.out x hx; omega))
  clear hb1 HE HST
  go_wp2_with fail
  refine (stillInts_none bk _ (HE1.out 2 (by decide) (by decide) (by decide))).mono ?_
  rintro e w' ⟨rfl, rfl⟩
  go_wp2_with fail
  refine (stillKeys_none bk _ (HE1.out 4 (by decide) (by decide) (by decide))).mono ?_
  rintro e w' ⟨rfl, rfl⟩
  go_wp2_with fail
  refine (stillPostings_none bk _ (HE1.out 6 (by decide) (by decide) (by decide))).mono ?_
  rintro e w' ⟨rfl, rfl⟩
  go_wp2_with fail
  refine (stillParties_none bk _ (HE1.out 8 (by decide) (by decide) (by decide))).mono ?_
  rintro e w' ⟨rfl, rfl⟩
  go_wp2_with fail
  refine (stillAccounts_none bk _ (HE1.out 10 (by decide) (by decide) (by decide))).mono ?_
  rintro e w' ⟨rfl, rfl⟩
  go_wp2_with fail
  refine (stillAssets_none bk _ (HE1.out 12 (by decide) (by decide) (by decide))).mono ?_
  rintro e w' ⟨rfl, rfl⟩
  go_wp2_with fail
  refine (stillInsts_none bk _ (HE1.out 14 (by decide) (by decide) (by decide))).mono ?_
  rintro e w' ⟨rfl, rfl⟩
  go_wp2_with fail
  refine (stillPairs_none bk _ (HE1.out 16 (by decide) (by decide) (by decide))).mono ?_
  rintro e w' ⟨rfl, rfl⟩
  go_wp2_with fail
  refine (stillAllegs_none bk _ (HE1.out 18 (by decide) (by decide) (by decide))).mono ?_
  rintro e w' ⟨rfl, rfl⟩
  go_wp2_with fail
  refine (stillLinks_none bk _ (HE1.out 20 (by decide) (by decide) (by decide))).mono ?_
  rintro e w' ⟨rfl, rfl⟩
  go_wp2_with fail
  refine (stillPledges_none bk _ (HE1.out 22 (by decide) (by decide) (by decide))).mono ?_
  rintro e w' ⟨rfl, rfl⟩
  go_wp2_with fail
  refine (stillLoans_none bk _ (HE1.out 24 (by decide) (by decide) (by decide))).mono ?_
  rintro e w' ⟨rfl, rfl⟩
  go_wp2_with fail
  refine (stillTakes_none bk _ (HE1.out 26 (by decide) (by decide) (by decide))).mono ?_
  rintro e w' ⟨rfl, rfl⟩
  go_wp2_with fail
  refine (stillLegs_none bk _ (HE1.out 28 (by decide) (by decide) (by decide))).mono ?_
  rintro e w' ⟨rfl, rfl⟩
  go_wp2_with fail
  refine (stillStocks_none bk _ (HE1.out 30 (by decide) (by decide) (by decide))).mono ?_
  rintro e w' ⟨rfl, rfl⟩
  go_wp2_with fail
  refine (stillSteps_none bk _ (HE1.out 32 (by decide) (by decide) (by decide))).mono ?_
  rintro e w' ⟨rfl, rfl⟩
  go_wp2_with fail
  refine (putAllegs_none bk _ (HE1.out 18 (by decide) (by decide) (by decide))).mono ?_
  rintro e w' ⟨rfl, rfl⟩
  go_wp2_with fail
  refine (putLoans_none bk _ (HE1.out 24 (by decide) (by decide) (by decide))).mono ?_
  rintro e w' ⟨rfl, rfl⟩
  go_wp2_with fail
  refine (putTakes_none bk _ (HE1.out 26 (by decide) (by decide) (by decide))).mono ?_
  rintro e w' ⟨rfl, rfl⟩
  go_wp2_with fail
  refine (putSteps_none bk _ (HE1.out 32 (by decide) (by decide) (by decide))).mono ?_
  rintro e w' ⟨rfl, rfl⟩
  go_wp2_with fail
  refine HPT.out.mono ?_
  rintro e w2 ⟨rfl, M, hM⟩
  have hml := hM.sh.len
  have HE2 := Lib.hid (HE1.out.keep hbk1 hM.tn hM.nobk)
  have HT2 := Lib.hid (HT1.out.trans hM.tn)
  have hc2 : w2.cell? ⟨bk, 0, none⟩ = some tv := (hM.tn.cell (p := ⟨bk, 0, none⟩) hbk1 hM.nobk).trans HK1.out.c0
  have hbk2 : bk < w2.heap.size := by have := hM.tn.size; omega
  have HLM : Hid (∀ x ∈ M, x.2.length ≤ 300000) := Lib.hid (fun x hx => by obtain ⟨y, hy, _, h2⟩ := hM.sh.mem hx; have := HLN.out y hy; omega)
  have HMN : Hid (M.length ≤ 900) := Lib.hid (by have := HN.out; omega)
  have HMB : Hid (MarkedBelow bname M M.length) := Lib.hid (by rw [hml]; exact hM.mb)
  have HBM : Hid (∀ k, BlocksOf M k → BlocksOf L k) := Lib.hid (fun k ⟨x, hx, e⟩ => by obtain ⟨y, hy, h1, _⟩ := hM.sh.mem hx; exact ⟨y, hy, by rw [h1]; exact e⟩)
  have HGR := Lib.hid (growT_any base bk M tv w2 hM.ls HBB.out hc2 HMN.out HLM.out HMB.out)
  clear hM hml HE1 HPT
  go_wp2_with fail
  refine (putInts_none bk _ (HE2.out 2 (by decide) (by decide) (by decide))).mono ?_
  rintro e w' ⟨rfl, rfl⟩
  go_wp2_with fail
  refine (putKeys_none bk _ (HE2.out 4 (by decide) (by decide) (by decide))).mono ?_
  rintro e w' ⟨rfl, rfl⟩
  go_wp2_with fail
  refine (putPostings_none bk _ (HE2.out 6 (by decide) (by decide) (by decide))).mono ?_
  rintro e w' ⟨rfl, rfl⟩
  go_wp2_with fail
  refine (putParties_none bk _ (HE2.out 8 (by decide) (by decide) (by decide))).mono ?_
  rintro e w' ⟨rfl, rfl⟩
  go_wp2_with fail
  refine (putAccounts_none bk _ (HE2.out 10 (by decide) (by decide) (by decide))).mono ?_
  rintro e w' ⟨rfl, rfl⟩
  go_wp2_with fail
  refine (putAssets_none bk _ (HE2.out 12 (by decide) (by decide) (by decide))).mono ?_
  rintro e w' ⟨rfl, rfl⟩
  go_wp2_with fail
  refine (putInsts_none bk _ (HE2.out 14 (by decide) (by decide) (by decide))).mono ?_
  rintro e w' ⟨rfl, rfl⟩
  go_wp2_with fail
  refine (putPairs_none bk _ (HE2.out 16 (by decide) (by decide) (by decide))).mono ?_
  rintro e w' ⟨rfl, rfl⟩
  go_wp2_with fail
  refine (putLinks_none bk _ (HE2.out 20 (by decide) (by decide) (by decide))).mono ?_
  rintro e w' ⟨rfl, rfl⟩
  go_wp2_with fail
  refine (putPledges_none bk _ (HE2.out 22 (by decide) (by decide) (by decide))).mono ?_
  rintro e w' ⟨rfl, rfl⟩
  go_wp2_with fail
  refine (putLegs_none bk _ (HE2.out 28 (by decide) (by decide) (by decide))).mono ?_
  rintro e w' ⟨rfl, rfl⟩
  go_wp2_with fail
  refine (putStocks_none bk _ (HE2.out 30 (by decide) (by decide) (by decide))).mono ?_
  rintro e w' ⟨rfl, rfl⟩
  go_wp2_with fail
  refine HGR.out.mono ?_
  rintro e w3 ⟨ov, rfl, O, hG, hOn, hOM, hOL⟩
  have HE3 := Lib.hid (HE2.out.keep hbk2 hG.turned fun ⟨x, hx, e⟩ => hG.old.far' x hx e)
  have HT3 := Lib.hid (HT2.out.trans (hG.turned.mono fun k _ h => HBM.out k h))
  have hc3 : w3.cell? ⟨bk, 0, none⟩ = some tv := (hG.cell0 0).trans hc2
  have hbk3 : bk < w3.heap.size := World.block_lt_of_cell? w3 ⟨bk, 0, none⟩ hc3
  have HM1 := Lib.hid (markedT_any base bk O ov w3 hG.new (by have := HMN.out; omega) (fun x hx => hOL x hx) hOM)
  have HM2 := Lib.hid (fun W (hw : Below w3.heap.size w3 W) => markedT_any base bk M tv W (hG.old.below hw) HMN.out (fun x hx => by have := HLM.out x hx; omega) HMB.out)
  clear hG hOn hOM hOL HE2 HGR hc2
  go_wp2_with fail
  refine (growInts_none bk _ (HE3.out 2 (by decide) (by decide) (by decide))).mono ?_
  rintro e w' ⟨rfl, rfl⟩
  go_wp2_with fail
  refine (growKeys_none bk _ (HE3.out 4 (by decide) (by decide) (by decide))).mono ?_
  rintro e w' ⟨rfl, rfl⟩
  go_wp2_with fail
  refine (growPostings_none bk _ (HE3.out 6 (by decide) (by decide) (by decide))).mono ?_
  rintro e w' ⟨rfl, rfl⟩
  go_wp2_with fail
  refine (growParties_none bk _ (HE3.out 8 (by decide) (by decide) (by decide))).mono ?_
  rintro e w' ⟨rfl, rfl⟩
  go_wp2_with fail
  refine (growAccounts_none bk _ (HE3.out 10 (by decide) (by decide) (by decide))).mono ?_
  rintro e w' ⟨rfl, rfl⟩
  go_wp2_with fail
  refine (growAssets_none bk _ (HE3.out 12 (by decide) (by decide) (by decide))).mono ?_
  rintro e w' ⟨rfl, rfl⟩
  go_wp2_with fail
  refine (growInsts_none bk _ (HE3.out 14 (by decide) (by decide) (by decide))).mono ?_
  rintro e w' ⟨rfl, rfl⟩
  go_wp2_with fail
  refine (growPairs_none bk _ (HE3.out 16 (by decide) (by decide) (by decide))).mono ?_
  rintro e w' ⟨rfl, rfl⟩
  go_wp2_with fail
  refine (growAllegs_none bk _ (HE3.out 18 (by decide) (by decide) (by decide))).mono ?_
  rintro e w' ⟨rfl, rfl⟩
  go_wp2_with fail
  refine (growLinks_none bk _ (HE3.out 20 (by decide) (by decide) (by decide))).mono ?_
  rintro e w' ⟨rfl, rfl⟩
  go_wp2_with fail
  refine (growPledges_none bk _ (HE3.out 22 (by decide) (by decide) (by decide))).mono ?_
  rintro e w' ⟨rfl, rfl⟩
  go_wp2_with fail
  refine (growLoans_none bk _ (HE3.out 24 (by decide) (by decide) (by decide))).mono ?_
  rintro e w' ⟨rfl, rfl⟩
  go_wp2_with fail
  refine (growTakes_none bk _ (HE3.out 26 (by decide) (by decide) (by decide))).mono ?_
  rintro e w' ⟨rfl, rfl⟩
  go_wp2_with fail
  refine (growLegs_none bk _ (HE3.out 28 (by decide) (by decide) (by decide))).mono ?_
  rintro e w' ⟨rfl, rfl⟩
  go_wp2_with fail
  refine (growStocks_none bk _ (HE3.out 30 (by decide) (by decide) (by decide))).mono ?_
  rintro e w' ⟨rfl, rfl⟩
  go_wp2_with fail
  refine (growSteps_none bk _ (HE3.out 32 (by decide) (by decide) (by decide))).mono ?_
  rintro e w' ⟨rfl, rfl⟩
  go_wp2_with fail
  refine HM1.out.mono ?_
  rintro e w4 ⟨rfl, hb4⟩
  have HB4 := Lib.hid hb4
  have hc4 : w4.cell? ⟨bk, 0, none⟩ = some tv := (hb4.cell (p := ⟨bk, 0, none⟩) hbk3).trans hc3
  have hbk4 : bk < w4.heap.size := by have := hb4.size; omega
  have HE4 := Lib.hid (HE3.out.keep hbk3 (Turned.of_below hb4 fun _ => False) fun e => e)
  have HM3 := Lib.hid (HM2.out w4 hb4)
  clear hb4 HM1 HM2
  go_wp2_with fail
  refine HM3.out.mono ?_
  rintro e w5 ⟨rfl, hb5⟩
  have HB5 := Lib.hid (HB4.out.trans (hb5.mono HB4.out.size))
  have HT5 := Lib.hid (HT3.out.trans (Turned.of_below HB5.out _))
  have HE5 := Lib.hid (HE4.out.keep hbk4 (Turned.of_below hb5 fun _ => False) fun e => e)
  clear hb5 HM3 hc4 HE4
  have n2 := HE5.out 2 (by decide) (by decide) (by decide)
  have n4 := HE5.out 4 (by decide) (by decide) (by decide)
  have n6 := HE5.out 6 (by decide) (by decide) (by decide)
  have n8 := HE5.out 8 (by decide) (by decide) (by decide)
  have n10 := HE5.out 10 (by decide) (by decide) (by decide)
  have n12 := HE5.out 12 (by decide) (by decide) (by decide)
  have n14 := HE5.out 14 (by decide) (by decide) (by decide)
  have n16 := HE5.out 16 (by decide) (by decide) (by decide)
  have n18 := HE5.out 18 (by decide) (by decide) (by decide)
  have n20 := HE5.out 20 (by decide) (by decide) (by decide)
  have n22 := HE5.out 22 (by decide) (by decide) (by decide)
  have n24 := HE5.out 24 (by decide) (by decide) (by decide)
  have n26 := HE5.out 26 (by decide) (by decide) (by decide)
  have n28 := HE5.out 28 (by decide) (by decide) (by decide)
  have n30 := HE5.out 30 (by decide) (by decide) (by decide)
  have n32 := HE5.out 32 (by decide) (by decide) (by decide)
  go_wp2_with fail
  refine (markedInts_none _).mono ?_
  rintro e w' ⟨rfl, rfl⟩
  go_wp2_with fail
  refine (markedInts_none _).mono ?_
  rintro e w' ⟨rfl, rfl⟩
  go_wp2_with fail
  refine (markedKeys_none _).mono ?_
  rintro e w' ⟨rfl, rfl⟩
  go_wp2_with fail
  refine (markedKeys_none _).mono ?_
  rintro e w' ⟨rfl, rfl⟩
  go_wp2_with fail
  refine (markedPostings_none _).mono ?_
  rintro e w' ⟨rfl, rfl⟩
  go_wp2_with fail
  refine (markedPostings_none _).mono ?_
  rintro e w' ⟨rfl, rfl⟩
  go_wp2_with fail
  refine (markedParties_none _).mono ?_
  rintro e w' ⟨rfl, rfl⟩
  go_wp2_with fail
  refine (markedParties_none _).mono ?_
  rintro e w' ⟨rfl, rfl⟩
  go_wp2_with fail
  refine (markedAccounts_none _).mono ?_
  rintro e w' ⟨rfl, rfl⟩
  go_wp2_with fail
  refine (markedAccounts_none _).mono ?_
  rintro e w' ⟨rfl, rfl⟩
  go_wp2_with fail
  refine (markedAssets_none _).mono ?_
  rintro e w' ⟨rfl, rfl⟩
  go_wp2_with fail
  refine (markedAssets_none _).mono ?_
  rintro e w' ⟨rfl, rfl⟩
  go_wp2_with fail
  refine (markedInsts_none _).mono ?_
  rintro e w' ⟨rfl, rfl⟩
  go_wp2_with fail
  refine (markedInsts_none _).mono ?_
  rintro e w' ⟨rfl, rfl⟩
  go_wp2_with fail
  refine (markedPairs_none _).mono ?_
  rintro e w' ⟨rfl, rfl⟩
  go_wp2_with fail
  refine (markedPairs_none _).mono ?_
  rintro e w' ⟨rfl, rfl⟩
  go_wp2_with fail
  refine (markedAllegs_none _).mono ?_
  rintro e w' ⟨rfl, rfl⟩
  go_wp2_with fail
  refine (markedAllegs_none _).mono ?_
  rintro e w' ⟨rfl, rfl⟩
  go_wp2_with fail
  refine (markedLinks_none _).mono ?_
  rintro e w' ⟨rfl, rfl⟩
  go_wp2_with fail
  refine (markedLinks_none _).mono ?_
  rintro e w' ⟨rfl, rfl⟩
  go_wp2_with fail
  refine (markedPledges_none _).mono ?_
  rintro e w' ⟨rfl, rfl⟩
  go_wp2_with fail
  refine (markedPledges_none _).mono ?_
  rintro e w' ⟨rfl, rfl⟩
  go_wp2_with fail
  refine (markedLoans_none _).mono ?_
  rintro e w' ⟨rfl, rfl⟩
  go_wp2_with fail
  refine (markedLoans_none _).mono ?_
  rintro e w' ⟨rfl, rfl⟩
  go_wp2_with fail
  refine (markedTakes_none _).mono ?_
  rintro e w' ⟨rfl, rfl⟩
  go_wp2_with fail
  refine (markedTakes_none _).mono ?_
  rintro e w' ⟨rfl, rfl⟩
  go_wp2_with fail
  refine (markedLegs_none _).mono ?_
  rintro e w' ⟨rfl, rfl⟩
  go_wp2_with fail
  refine (markedLegs_none _).mono ?_
  rintro e w' ⟨rfl, rfl⟩
  go_wp2_with fail
  refine (markedStocks_none _).mono ?_
  rintro e w' ⟨rfl, rfl⟩
  go_wp2_with fail
  refine (markedStocks_none _).mono ?_
  rintro e w' ⟨rfl, rfl⟩
  go_wp2_with fail
  refine (markedSteps_none _).mono ?_
  rintro e w' ⟨rfl, rfl⟩
  go_wp2_with fail
  refine (markedSteps_none _).mono ?_
  rintro e w' ⟨rfl, rfl⟩
  go_wp2_with fail
  go_ret
  exact ⟨rfl, HT5.out⟩
end Go.Proofs.YtgbknjpjhkegdaaGreat
