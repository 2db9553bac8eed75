/-
  The first call of each statement of chapter 2 ('alive') returns true.
-/
import Derived.Test.YtgbknjpjhkegdaaGreatNamG
namespace Go.Proofs.YtgbknjpjhkegdaaGreat
open Go.RowKit Go.Maps Go.WideMaps

abbrev txA : ByteArray := ⟨#[65]⟩
abbrev txB : ByteArray := ⟨#[66]⟩

def dA : DU := addAll (.map []) [txA]
def dAB : DU := addAll dA [txA, txB, txB]
theorem dA_eq : dA = .map [(.string [65], .agg [])] := rfl
theorem dAB_eq : dAB = .map [(.string [65], .agg []), (.string [66], .agg [])] := rfl
theorem dB_eq : addAll (.map [] : DU) [txB, txA, txB] = .map [(.string [65], .agg []), (.string [66], .agg [])] := rfl
theorem sortBAB : sortS [txB, txA, txB] = [txA, txB] := by
  rw [sortS, dB_eq, sortedS, sortedL]
  have e : strKeys (.map [(.string [65], .agg []), (.string [66], .agg [])] : DU) = [[65], [66]] := rfl
  rw [e, List.mergeSort_of_pairwise (by simp; decide)]
  rfl

theorem vA1 : validB ⟨#[65, 49]⟩ = true := by decide
theorem v1A : validB ⟨#[49, 65]⟩ = false := by decide
theorem cAAB : cmpS ⟨#[65]⟩ ⟨#[65, 66]⟩ = -1 := by unfold cmpS; rw [if_pos (by decide)]
theorem hB : hasS dAB txB = true := rfl
theorem sAB : Maps.size dAB = 2 := rfl
theorem sA : Maps.size dA = 1 := rfl

theorem szA : txA.size ≤ 140737488351232 := by decide
theorem szB : txB.size ≤ 140737488351232 := by decide

theorem texts_lit {w : World} {g : Nat} {ss : List ByteArray} {vs : Array Value} (hv : vs.toList = ss.map Value.string) (hs : ∀ s ∈ ss, s.size ≤ 140737488351232) (hl : ss.length ≤ 1000) (hg : g = w.heap.size) : TextsAt (w.alloc (.cells vs 9)) (.slice (some ⟨g, 0, none⟩) ss.length ss.length) ss := by
  subst hg
  refine ⟨_, _, rfl, by omega, hs, .inr ⟨_, 0, rfl, by simp, fun j hj => ?_⟩⟩
  rw [World.cell?_alloc_new, Nat.zero_add]
  have : vs[j]? = (ss.map Value.string)[j]? := by rw [← hv, Array.getElem?_toList]
  rw [this]
  simp [List.getD, hj]

set_option maxHeartbeats 1600000 in
theorem alive_any (w : World) : Calls Tryz.prog 6 #[] w fun e w' => e = .returned (.bool true) ∧ Below w.heap.size w w' := by
  have hv1 : TextsAt (w.alloc (.cells #[.string txA] 9)) (.slice (some ⟨w.heap.size, 0, none⟩) 1 1) [txA] := texts_lit (ss := [txA]) rfl (by simp [szA]) (by simp) rfl
  have hB : Below w.heap.size w (w.alloc (.cells #[.string txA] 9)) := (Below.refl _ _).alloc (Nat.le_refl _) _
  have HN := Lib.hid (new_any _ _ _ hv1 (by simp))
  have HB := Lib.hid hB
  clear hv1 hB
  go_enter Tryz.func6, Tryz.ntmps6
  go_wp2_with fail
  refine HN.out.mono ?_
  rintro e w1 ⟨hb1, b, m, rfl, hle, hlm, hmb, hs1⟩
  have hbw : Below w.heap.size w w1 := HB.out.trans (hb1.mono (by simp))
  have hle' : w.heap.size ≤ b := Nat.le_trans (by simp) hle
  have hlm' : w.heap.size ≤ m := Nat.le_trans (by simp) hlm
  have HS := Lib.hid (show SetAt w1 b (some m) dA from hs1)
  clear HN HB hb1 hle hlm hs1
  have hv2 : TextsAt (w1.alloc (.cells #[.string txB, .string txA, .string txB] 9)) (.slice (some ⟨w1.heap.size, 0, none⟩) 3 3) [txB, txA, txB] := texts_lit (ss := [txB, txA, txB]) rfl (by simp [szA, szB]) (by simp) rfl
  have hB2 : Below w1.heap.size w1 (w1.alloc (.cells #[.string txB, .string txA, .string txB] 9)) := (Below.refl _ _).alloc (Nat.le_refl _) _
  have hso := sort_any _ _ _ hv2 (by simp)
  rw [sortBAB] at hso
  have HSO := Lib.hid hso
  have HB2 := Lib.hid hB2
  clear hv2 hB2 hso
  go_wp2_with fail
  refine HSO.out.mono ?_
  rintro e w2 ⟨v, rfl, ⟨⟨a, c, hva, _, _, hcs⟩, _⟩, hb2⟩
  have hb12 := HB2.out.trans (hb2.mono (by simp))
  replace hbw := hbw.trans (hb12.mono hbw.size)
  have HS2 := Lib.hid (HS.out.below hb12)
  obtain ⟨g, off, rfl, hg, hc0⟩ := TextsAt.ne hcs (k := 0) (by simp)
  have hcell := hc0 0 (by simp)
  simp only [List.length_cons, List.length_nil, Nat.reduceAdd] at hva
  subst hva
  have hcell2 : w2.cell? ⟨g, off, none⟩ = some (.string txA) := hcell
  clear HSO HB2 HS hb2 hb12 hc0 hcs hcell
  go_wp2_with fail
  refine (valid_any _ _ (by decide)).mono ?_
  rw [vA1]
  rintro e w3 ⟨rfl, rfl⟩
  go_wp2_with fail
  refine (valid_any _ _ (by decide)).mono ?_
  rw [v1A]
  rintro e w3 ⟨rfl, rfl⟩
  go_wp2_with fail
  refine (cmp_any _ _ _).mono ?_
  rw [cAAB]
  rintro e w3 ⟨rfl, rfl⟩
  have hB3 : Below w2.heap.size w2 (w2.alloc (.cells #[.string txA, .string txB, .string txB] 9)) := (Below.refl _ _).alloc (Nat.le_refl _) _
  have hv3 : TextsAt (w2.alloc (.cells #[.string txA, .string txB, .string txB] 9)) (.slice (some ⟨w2.heap.size, 0, none⟩) 3 3) [txA, txB, txB] := texts_lit (ss := [txA, txB, txB]) rfl (by simp [szA, szB]) (by simp) rfl
  have hbs := HS2.out.1
  have hms : m < w2.heap.size := by
    rcases HS2.out.2.2.2 with ⟨h, _⟩ | ⟨m', h, ho⟩
    · cases h
    · obtain rfl := Option.some.inj h; exact ho.lt
  have hadd := add_any b (some m) dA _ [txA, txB, txB] _ (HS2.out.below hB3) (fun m' h => by obtain rfl := Option.some.inj h; exact hmb) hv3 (fun q off n c e => by simp at e; exact .inr ⟨by omega, by simp; omega⟩) (by rw [sA]; simp)
  have HA := Lib.hid hadd
  have HB3 := Lib.hid (hbw.trans (hB3.mono hbw.size))
  clear hadd hv3 hB3 hbw
  go_wp2_with fail
  refine HA.out.mono ?_
  rintro e w4 ⟨rfl, ht4, m4, hm4, hs4⟩
  rw [show addAll dA [txA, txB, txB] = dAB from rfl, sAB, sA]
  obtain rfl : m = m4 := by
    rcases hm4 with h | ⟨h, _⟩
    · exact Option.some.inj h
    · cases h
  have hbw4 : Below w.heap.size w w4 := ht4.below HB3.out (fun k hk h => by rcases h with h | h; (have : k = b := h); omega; (have := Option.some.inj h); omega)
  have HS4 := Lib.hid (show SetAt w4 b (some m) dAB from hs4)
  clear HA HB3 ht4 hm4 hs4 hbs hms HS2
  go_wp2_with fail
  refine (has_any b (some m) dAB _ _ HS4.out (by decide)).mono ?_
  rw [hB]
  rintro e w5 ⟨rfl, hb5⟩
  have HS5 := Lib.hid (HS4.out.below hb5)
  replace hbw4 := hbw4.trans (hb5.mono hbw4.size)
  clear hb5 HS4
  go_wp2_with fail
  refine (len_any b (some m) dAB _ HS5.out).mono ?_
  rw [sAB]
  rintro e w6 ⟨rfl, rfl⟩
  go_wp2_with fail
  go_ret
  exact ⟨rfl, hbw4⟩

end Go.Proofs.YtgbknjpjhkegdaaGreat
