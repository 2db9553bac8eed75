/-
  The walk of NameTells.
-/
import Derived.Test.YtgbknjpjhkegdaaGreatTellsA
namespace Go.Proofs.YtgbknjpjhkegdaaGreat
open Go.RowKit Go.Maps Go.WideMaps
set_option linter.unusedVariables false

/-- Where an argument is too long. -/
theorem NameTells_bad (a b : ByteArray) (v : Value) (ss : List ByteArray) (w : World) (hv : TextsAt w v ss) (ha : a.size ≤ 140737488351232) (hb : b.size ≤ 140737488351232) (h : 3000 < a.size ∨ 3000 < b.size ∨ shortB 300 9000 ss = false) :
    Calls Tryz.prog 3 #[.string a, .string b, v] w fun e w' => e = .returned (.bool true) ∧ Below w.heap.size w w' := by
  have HS := Lib.hid (shorts_any v ss w hv)
  have HAL := Lib.hid (fun W => alive_any W)
  clear hv
  by_cases h1 : 3000 < a.size
  · have h1z : (3000 : Int) < (a.size : Int) := by omega
    go_enter Tryz.func3, Tryz.ntmps3
    go_wp2_with fail
    refine (HAL.out _).mono ?_
    rintro e w2 ⟨rfl, hb2⟩
    go_wp2_with fail
    go_ret
    exact ⟨rfl, hb2⟩
  · have h1z : ¬ (3000 : Int) < (a.size : Int) := by omega
    by_cases h2 : 3000 < b.size
    · have h2z : (3000 : Int) < (b.size : Int) := by omega
      go_enter Tryz.func3, Tryz.ntmps3
      go_wp2_with fail
      refine (HAL.out _).mono ?_
      rintro e w2 ⟨rfl, hb2⟩
      go_wp2_with fail
      go_ret
      exact ⟨rfl, hb2⟩
    · have h2z : ¬ (3000 : Int) < (b.size : Int) := by omega
      have h3 : shortB 300 9000 ss = false := by
        rcases h with h | h | h
        · exact absurd h h1
        · exact absurd h h2
        · exact h
      rw [h3] at HS
      clear h h3
      go_enter Tryz.func3, Tryz.ntmps3
      go_wp2_with fail
      refine HS.out.mono ?_
      rintro e w1 ⟨rfl, hb1⟩
      go_wp2_with fail
      refine (HAL.out _).mono ?_
      rintro e w2 ⟨rfl, hb2⟩
      go_wp2_with fail
      go_ret
      exact ⟨rfl, hb1.trans (hb2.mono hb1.size)⟩

set_option maxRecDepth 100000 in
set_option maxHeartbeats 4000000 in
theorem NameTells_good (a b : ByteArray) (v : Value) (ss : List ByteArray) (w : World) (hv : TextsAt w v ss) (ha : a.size ≤ 3000) (hb : b.size ≤ 3000) (h : shortB 300 9000 ss = true) :
    Calls Tryz.prog 3 #[.string a, .string b, v] w fun e w' => e = .returned (.bool true) ∧ Below w.heap.size w w' := by
  have hfit := short_fit h
  have hl : ss.length ≤ 300 := by have := hfit.1; omega
  have hs : ∀ s ∈ ss, s.size ≤ 100000 := fun s hsm => by have := hfit.2 s hsm; omega
  have hs2 : ∀ s ∈ ss, s.size ≤ 140737488351232 := fun s hsm => by have := hs s hsm; omega
  have HS := Lib.hid (shorts_any v ss w hv)
  rw [h] at HS
  have HL := Lib.hid hl
  have HSS := Lib.hid hs2
  have HV := Lib.hid (fun W (hb : Below w.heap.size w W) => hv.below hb)
  have HAL := Lib.hid (fun W => alive_any W)
  have HV1 := Lib.hid (fun W => valid_any a W (by omega))
  have HV2 := Lib.hid (fun W => refValid_any a W (by omega))
  have HC1 := Lib.hid (fun W => cmp_any a b W)
  have HC2 := Lib.hid (fun W => refCmp_any a b W (by omega) (by omega))
  have HLE := Lib.hid (fun W (hb : Below w.heap.size w W) => lentT_any v ss W (hv.below hb) (by omega))
  have HRS := Lib.hid (fun W (hb : Below w.heap.size w W) => refSort_any v ss W (hv.below hb) (by omega) hs)
  have h1z : ¬ (3000 : Int) < (a.size : Int) := by omega
  have h2z : ¬ (3000 : Int) < (b.size : Int) := by omega
  clear h hfit hl hs hs2 hv ha hb
  go_enter Tryz.func3, Tryz.ntmps3
  go_wp2_with fail
  refine HS.out.mono ?_
  rintro e w1 ⟨rfl, hb1⟩
  have HB1 := Lib.hid hb1
  have HN0 := Lib.hid (BookNow.new (Z := #[.slice none 0 0, .slice none 0 0, .slice none 0 0, .slice none 0 0, .slice none 0 0, .slice none 0 0, .slice none 0 0, .slice none 0 0, .slice none 0 0, .slice none 0 0, .slice none 0 0, .slice none 0 0, .slice none 0 0, .slice none 0 0, .slice none 0 0, .slice none 0 0, .slice none 0 0, .slice none 0 0, .slice none 0 0, .slice none 0 0, .slice none 0 0, .slice none 0 0, .slice none 0 0, .slice none 0 0, .slice none 0 0, .slice none 0 0, .slice none 0 0, .slice none 0 0, .slice none 0 0, .slice none 0 0, .slice none 0 0, .slice none 0 0, .slice none 0 0, .slice none 0 0]) hb1 rfl)
  clear hb1 HS
  obtain ⟨bk, hbk⟩ : ∃ bk, bk = w1.heap.size := ⟨_, rfl⟩
  rw [← hbk] at HN0
  have HBK := Lib.hid hbk
  rw [hbk] at HN0
  clear hbk
  go_wp2_with fail
  rw [← HBK.out] at HN0
  simp only [← HBK.out]
  have hbk0 := HBK.out
  clear hbk0
  go_loopw [8] (fun k wr => ∃ q : Nat, k = .int .i64 q ∧ q ≤ 2 ∧ Hid (BookNow w bk wr q)) (fun k _ => ((2 : Int) - RowKit.intOf k).toNat)
  case atStart => exact ⟨0, rfl, by omega, HN0⟩
  case round =>
    obtain ⟨q, rfl, hq, HN⟩ := hrel
    clear HN0
    by_cases hlt : q < 2
    · have hltz : (q : Int) < 2 := by omega
      have HL1 := Lib.hid (HLE.out wr HN.out.below)
      go_wp2_with fail
      refine HL1.out.mono ?_
      rintro e w2 ⟨m, rfl, hm, hb2⟩
      have HN2 := Lib.hid (HN.out.step hb2)
      have hmt := lent_texts hm (by have := HL.out; omega) HSS.out
      have HM := Lib.hid (fun W (hb : Below w2.heap.size w2 W) => stays_any m v ss wr.heap.size W (lent_below hm hb) (hmt.below hb) (HV.out W (HN2.out.below.trans (hb.mono HN2.out.below.size))) (by have := HL.out; omega))
      have HSO := Lib.hid (sort_any m ss w2 hmt (by have := HL.out; omega))
      clear hm hb2 hmt HL1
      go_wp2_with fail
      refine HSO.out.mono ?_
      rintro e w3 ⟨s, rfl, hns, hb3⟩
      have HB3 := Lib.hid hb3
      have HNS := Lib.hid (own_of_newT hns)
      have HNT := Lib.hid (fun W (hb : Below w3.heap.size w3 W) => hns.1.below hb)
      have HR3 := Lib.hid (HRS.out w3 ((HN2.out.step hb3).below))
      clear hns hb3 HSO
      go_wp2_with fail
      refine HR3.out.mono ?_
      rintro e w4 ⟨r, rfl, hr, hb4⟩
      have HB4 := Lib.hid hb4
      have HSA : Hid (Calls Tryz.prog 9 #[s, r] w4 fun e w' => e = .returned (.bool true) ∧ Below w4.heap.size w4 w') := Lib.hid (by
        have hlen := refS_len ss
        have hsz : ∀ z ∈ refS ss, z.size ≤ 140737488351232 := fun z hz => HSS.out z ((mem_refS z ss).1 hz)
        refine (same_any s r (sortS ss) (refS ss) w4 (HNT.out w4 hb4) (ownT_texts hr (by have := HL.out; omega) hsz)).mono ?_
        rintro e w' ⟨rfl, hb⟩
        exact ⟨by rw [sortS_refS]; simp, hb⟩)
      clear hr hb4 HR3 HNT
      go_wp2_with fail
      refine HSA.out.mono ?_
      rintro e w5 ⟨rfl, hb5⟩
      have HB5 := Lib.hid (HB4.out.trans (hb5.mono HB4.out.size))
      have HM5 := Lib.hid (HM.out w5 (HB3.out.trans (HB5.out.mono HB3.out.size)))
      clear hb5 HB4 HSA HM
      go_wp2_with fail
      refine HM5.out.mono ?_
      rintro e w6 ⟨rfl, hb6⟩
      have HB6 := Lib.hid (HB5.out.trans (hb6.mono HB5.out.size))
      have HAD := Lib.hid (HN2.out.add (HB3.out.trans (HB6.out.mono HB3.out.size)) (ownT_below HNS.out HB6.out) (by omega) (by rw [← sortS_refS]; have := refS_len ss; have := HL.out; omega) (fun z hz => HSS.out z ((mem_sortS z ss).1 hz)))
      clear hb6 HB5 HM5 HB3 HNS HB6 HN2
      go_wp2_with fail
      refine HAD.out.mono ?_
      rintro e w7 ⟨rfl, hn7, _⟩
      have HN7 := Lib.hid hn7
      clear hn7 HAD
      go_wp2_with fail
      go_roundw
      case rel => exact ⟨q + 1, by go_num, by omega, HN7⟩
      case measure => simp [RowKit.intOf]; omega
    · have hltz : ¬ (q : Int) < 2 := by omega
      go_wp2_with fail
      refine (HAL.out _).mono ?_
      rintro e w2 ⟨rfl, hb2⟩
      have HN2 := Lib.hid (HN.out.step hb2)
      clear hb2 HN
      go_wp2_with fail
      refine (HV1.out _).mono ?_
      rintro e w' ⟨rfl, rfl⟩
      go_wp2_with fail
      refine (HV2.out _).mono ?_
      rintro e w' ⟨rfl, rfl⟩
      go_wp2_with fail
      refine (HC1.out _).mono ?_
      rintro e w' ⟨rfl, rfl⟩
      go_wp2_with fail
      refine (HC2.out _).mono ?_
      rintro e w3 ⟨rfl, hb3⟩
      have HAP := Lib.hid ((HN2.out.step hb3).apart (by omega))
      clear hb3 HN2
      go_wp2_with fail
      refine HAP.out.mono ?_
      rintro e w4 ⟨rfl, hb4⟩
      go_wp2_with fail
      go_ret
      exact ⟨rfl, hb4⟩

theorem NameTells_walk (a b : ByteArray) (v : Value) (ss : List ByteArray) (w : World) (ha : a.size ≤ 140737488351232) (hb : b.size ≤ 140737488351232) (hv : TextsAt w v ss) :
    Calls Tryz.prog 3 #[.string a, .string b, v] w fun e w' => e = .returned (.bool true) ∧ Below w.heap.size w w' := by
  by_cases h1 : 3000 < a.size
  · exact NameTells_bad a b v ss w hv ha hb (.inl h1)
  · by_cases h2 : 3000 < b.size
    · exact NameTells_bad a b v ss w hv ha hb (.inr (.inl h2))
    · cases h3 : shortB 300 9000 ss with
      | false => exact NameTells_bad a b v ss w hv ha hb (.inr (.inr h3))
      | true => exact NameTells_good a b v ss w hv (by omega) (by omega) h3
end Go.Proofs.YtgbknjpjhkegdaaGreat
