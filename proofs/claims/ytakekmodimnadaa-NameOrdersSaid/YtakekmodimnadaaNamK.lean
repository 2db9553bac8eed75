/-
  Lists of texts against a set's blocks; the walk of NameBack.
-/
import Derived.Test.YtakekmodimnadaaNamW
import Derived.Test.YtakekmodimnadaaNamH
import Derived.Maps.AppendAt
namespace Go.Proofs.Ytakekmodimnadaa
open Go.RowKit Go.Maps Go.WideMaps

theorem infoS : (Try.prog.info? 9).map (fun i => (i.zero, i.size, i.bytes)) = some (some (.string ByteArray.empty), 1, 16) := by kernel_rfl

/-- The list's block is none of the set's. -/
def Away (b m : Nat) (v : Value) (ss : List ByteArray) : Prop := ∀ q off n c, v = .slice (some ⟨q, off, none⟩) n c → ss = [] ∨ (q ≠ b ∧ some m ≠ some q)

theorem away_old {w : World} {v : Value} {ss : List ByteArray} {b m : Nat} (hv : TextsAt w v ss) (hb : w.heap.size ≤ b) (hm : w.heap.size ≤ m) : Away b m v ss := fun q off n c e => by
  obtain ⟨a, c', h1, _, _, h4⟩ := hv
  rcases h4 with h4 | ⟨b', off', e', hlt, _⟩
  · exact .inl h4
  · rw [h1, e'] at e
    simp at e
    exact .inr ⟨by omega, by simp; omega⟩

theorem TextsAt.foot {w w' : World} {v : Value} {ss : List ByteArray} {b m : Nat} (hv : TextsAt w v ss) (ht : Turns (Foot b (some m)) w w') (ha : Away b m v ss) : TextsAt w' v ss := by
  obtain ⟨a, c, h1, h2, h3, h4⟩ := hv
  refine ⟨a, c, h1, h2, h3, ?_⟩
  rcases h4 with h4 | ⟨q, off, e, hlt, hc⟩
  · exact .inl h4
  · have hh := ha q off _ c (by rw [h1, e])
    rcases hh with hh | ⟨h5, h6⟩
    · exact .inl hh
    · exact .inr ⟨q, off, e, by have := ht.size; omega, fun j hj => by rw [ht.cell (p := ⟨q, off + j, none⟩) hlt (fun h => by rcases h with h | h; exact h5 h; exact h6 h.symm)]; exact hc j hj⟩

theorem texts_row {w : World} {base b m : Nat} {v : Value} {xs : List ByteArray} (h : w.ownsRow base 9 1 v xs.length (xs.map Value.string)) (hl : xs.length * 16 ≤ 140737488351232) (hs : ∀ s ∈ xs, s.size ≤ 140737488351232) (hb : b < base) (hm : m < base) : TextsAt w v xs ∧ Away b m v xs := by
  rcases h.2 with ⟨rfl, h0⟩ | ⟨g, cap, cur, rfl, hbg, hg, h1, h2, h3, h4⟩
  · exact ⟨⟨none, 0, by rw [h0], by omega, hs, .inl (List.eq_nil_of_length_eq_zero h0)⟩, fun q off n c e => by simp at e⟩
  · refine ⟨⟨_, cap, rfl, hl, hs, .inr ⟨g, 0, rfl, (Array.getElem?_eq_some_iff.1 hg).1, fun j hj => ?_⟩⟩, fun q off n c e => ?_⟩
    · rw [Nat.zero_add, World.ownsRow.cellAt h j (by simpa using hj)]
      simp [List.getD, hj]
    · simp at e
      exact .inr ⟨by omega, by simp; omega⟩

theorem new_away {w w' : World} {v : Value} {ss : List ByteArray} {b m : Nat} (hv : NewTexts w.heap.size w' v ss) (hb : b < w.heap.size) (hm : m < w.heap.size) : Away b m v ss := fun q off n c e => by
  rcases hv.2 with ⟨_, h⟩ | ⟨g, c', cur, h1, h2, _⟩
  · exact .inl h
  · rw [h1] at e
    simp at e
    exact .inr ⟨by omega, by simp; omega⟩

theorem fresh_snoc (D : DU) {ts : List ByteArray} {k : Nat} (h : k < ts.length) : freshOf D (ts.take (k + 1)) = freshOf D (ts.take k) ++ (if hasS D (ts.getD k ByteArray.empty) then [] else [ts.getD k ByteArray.empty]) := by
  rw [take_snoc h, freshOf, freshOf, List.filter_append]
  congr 1
  cases hh : hasS D (ts.getD k ByteArray.empty) <;> simp [hh, -List.getD_eq_getElem?_getD]

theorem fresh_len (D : DU) (ts : List ByteArray) (k : Nat) : (freshOf D (ts.take k)).length ≤ k :=
  Nat.le_trans (List.length_filter_le _ _) (List.length_take_le _ _)

theorem own_below {W W' : World} {B e size n : Nat} {v : Value} {xs : List Value} (h : W.ownsRow B e size v n xs) (hb : Below W.heap.size W W') : W'.ownsRow B e size v n xs := by
  rcases h with ⟨h0, h1 | ⟨g, cap, cur, h2, h3, h4, h5⟩⟩
  · exact ⟨h0, .inl h1⟩
  · exact ⟨h0, .inr ⟨g, cap, cur, h2, h3, by rw [hb.block g (Array.getElem?_eq_some_iff.1 h4).1]; exact h4, h5⟩⟩

structure Ok (w0 w : World) (b m : Nat) (D : DU) (l : List (Value × List ByteArray)) : Prop where
  below : Below w0.heap.size w0 w
  set : SetAt w b (some m) D
  txt : ∀ p ∈ l, TextsAt w p.1 p.2 ∧ Away b m p.1 p.2
  lb : w0.heap.size ≤ b
  lm : w0.heap.size ≤ m
  ne : m ≠ b

theorem Ok.ltm {w0 w : World} {b m : Nat} {D : DU} {l : List (Value × List ByteArray)} (h : Ok w0 w b m D l) : m < w.heap.size := by
  rcases h.set.2.2.2 with ⟨h, _⟩ | ⟨m', h, ho⟩
  · cases h
  · obtain rfl := Option.some.inj h; exact ho.lt
theorem Ok.step {w0 w w' : World} {b m : Nat} {D : DU} {l : List (Value × List ByteArray)} (h : Ok w0 w b m D l) (hb : Below w.heap.size w w') : Ok w0 w' b m D l :=
  ⟨h.below.trans (hb.mono h.below.size), h.set.below hb, fun p hp => ⟨(h.txt p hp).1.below hb, (h.txt p hp).2⟩, h.lb, h.lm, h.ne⟩
theorem Ok.push {w0 w : World} {b m : Nat} {D : DU} {l : List (Value × List ByteArray)} (h : Ok w0 w b m D l) {v : Value} {ss : List ByteArray} (ht : TextsAt w v ss) (ha : Away b m v ss) : Ok w0 w b m D ((v, ss) :: l) :=
  ⟨h.below, h.set, fun p hp => by rcases List.mem_cons.1 hp with rfl | hp; exact ⟨ht, ha⟩; exact h.txt p hp, h.lb, h.lm, h.ne⟩
theorem Ok.turn {w0 w w' : World} {b m : Nat} {D D' : DU} {l : List (Value × List ByteArray)} (h : Ok w0 w b m D l) (ht : Turns (Foot b (some m)) w w') (hs : SetAt w' b (some m) D') : Ok w0 w' b m D' l :=
  ⟨ht.below h.below (fun k hk hf => by rcases hf with hf | hf; (have := h.lb; omega); (obtain rfl := Option.some.inj hf; have := h.lm; omega)), hs, fun p hp => ⟨(h.txt p hp).1.foot ht (h.txt p hp).2, (h.txt p hp).2⟩, h.lb, h.lm, h.ne⟩
theorem Ok.add {w0 w w' : World} {b m : Nat} {D : DU} {l : List (Value × List ByteArray)} (h : Ok w0 w b m D l) {xs : List ByteArray} {e : Ending} (hp : AddPost w b (some m) D xs e w') : Ok w0 w' b m (addAll D xs) l := by
  obtain ⟨_, ht, m', hm, hs⟩ := hp
  rcases hm with hm | ⟨hm, _⟩
  · obtain rfl := Option.some.inj hm
    exact h.turn ht hs
  · cases hm
theorem Ok.del {w0 w w' : World} {b m : Nat} {D : DU} {l : List (Value × List ByteArray)} (h : Ok w0 w b m D l) {xs : List ByteArray} {e : Ending} (hp : DelPost w b (some m) D xs e w') : Ok w0 w' b m (delAll D xs) l :=
  h.turn hp.2.1 hp.2.2

set_option maxHeartbeats 1600000 in
theorem NameBack_walk (v : Value) (ss : List ByteArray) (u : Value) (ts : List ByteArray) (w : World) (hv : TextsAt w v ss) (hu : TextsAt w u ts) :
    Calls Try.prog 6 #[v, u] w fun e w' => e = .returned (.bool true) ∧ Below w.heap.size w w' := by
  have HS := Lib.hid (shorts_any v ss w hv)
  cases hb : shortB 300 9000 ss with
  | false =>
    have HB := Lib.hid hb
    clear hb hv hu
    go_enter Try.func6, Try.ntmps6
    go_wp2_with (first
      | (go_at_call 8; refine HS.out.mono ?_; rintro e w1 ⟨rfl, hb1⟩; rw [HB.out])
      | (go_at_call 9; refine (alive_any _).mono ?_; rintro e w2 ⟨rfl, hb2⟩))
    go_ret
    exact ⟨rfl, hb1.trans (hb2.mono hb1.size)⟩
  | true =>
    have HB := Lib.hid hb
    cases hb2 : shortB 300 9000 ts with
    | false =>
      have HB2 := Lib.hid hb2
      have HU := Lib.hid hu
      clear hb hb2 hv hu
      go_enter Try.func6, Try.ntmps6
      go_wp2_with fail
      refine HS.out.mono ?_
      rintro e w1 ⟨rfl, hb1⟩
      rw [HB.out]
      go_wp2_with fail
      refine (shorts_any u ts w1 (HU.out.below hb1)).mono ?_
      rintro e w2 ⟨rfl, hb2⟩
      rw [HB2.out]
      go_wp2_with fail
      refine (alive_any _).mono ?_
      rintro e w3 ⟨rfl, hb3⟩
      go_wp2
      go_ret
      exact ⟨rfl, (hb1.trans (hb2.mono hb1.size)).trans (hb3.mono (Nat.le_trans hb1.size hb2.size))⟩
    | true =>
      have HB2 := Lib.hid hb2
      have HF := Lib.hid (short_fit hb)
      have HF2 := Lib.hid (short_fit hb2)
      have HU := Lib.hid hu
      have HV := Lib.hid hv
      clear hb hb2 hv hu
      obtain ⟨i0, hi, hz0, hz1, hz2⟩ := info_parts infoS
      go_enter Try.func6, Try.ntmps6
      go_wp2_with fail
      refine HS.out.mono ?_
      rintro e w1 ⟨rfl, hb1⟩
      rw [HB.out]
      go_wp2_with fail
      refine (shorts_any u ts w1 (HU.out.below hb1)).mono ?_
      rintro e w2 ⟨rfl, hb2⟩
      rw [HB2.out]
      have h2 : Below w.heap.size w w2 := hb1.trans (hb2.mono hb1.size)
      clear hb1 hb2
      go_wp2_with fail
      refine (new_any v ss w2 (HV.out.below h2) (by have := HF.out.1; omega)).mono ?_
      rintro e w3 ⟨hb3, b, m, rfl, hlb, hlm, hmb, hs3⟩
      have h3 : Below w.heap.size w w3 := h2.trans (hb3.mono h2.size)
      have tv := HV.out.below h3
      have tu := HU.out.below h3
      have lb : w.heap.size ≤ b := Nat.le_trans h2.size hlb
      have lm : w.heap.size ≤ m := Nat.le_trans h2.size hlm
      have av := away_old HV.out lb lm
      have au := away_old HU.out lb lm
      have sb : b < w3.heap.size := hs3.1
      have sm : m < w3.heap.size := by
        rcases hs3.2.2.2 with ⟨h, _⟩ | ⟨m', h, ho⟩
        · cases h
        · obtain rfl := Option.some.inj h; exact ho.lt
      clear HS HB HB2 h2 hb3 hlb hlm
      have TV := Lib.hid tv
      have AV := Lib.hid av
      have AU := Lib.hid au
      have TU := Lib.hid tu
      have H3 := Lib.hid h3
      have S3 := Lib.hid hs3
      have LB := Lib.hid lb
      have LM := Lib.hid lm
      have MB := Lib.hid hmb
      clear tv av au h3 hs3 lb lm hmb HU HV
      obtain ⟨a, c, rfl, hlen, hss, hcs⟩ := tu
      obtain ⟨n, hn⟩ : ∃ n, n = ts.length := ⟨_, rfl⟩
      rw [← hn] at hlen TU AU ⊢
      have HN := Lib.hid hn
      have HX := Lib.hid hcs
      have HW := Lib.hid hss
      clear hn hcs hss
      obtain ⟨D, hD⟩ : ∃ D : DU, D = addAll (.map []) ss := ⟨_, rfl⟩
      have HD := Lib.hid hD
      rw [← hD] at S3
      clear hD
      have hn3 : n ≤ 300 := by rw [HN.out]; have := HF2.out.1; omega
      go_wp2
      go_loopw [6, 7] (fun s i wr => ∃ (k : Nat) (x : Value), x = s ∧ i = .int .i64 k ∧ k ≤ n ∧ Hid (wr.ownsRow w3.heap.size 9 1 x (freshOf D (ts.take k)).length ((freshOf D (ts.take k)).map Value.string)) ∧ Below w3.heap.size w3 wr) (fun _ i _ => (n - RowKit.intOf i).toNat)
      case atStart => exact ⟨0, _, rfl, rfl, Nat.zero_le _, Lib.hid (World.ownsRow_nil _ _ _ _), Below.refl _ _⟩
      case round =>
        obtain ⟨k, x, rfl, rfl, hk, Hr, hbw⟩ := hrel
        by_cases hlt : k < n
        · have hltz : (k : Int) < (n : Int) := by omega
          obtain ⟨b2, off, rfl, hb2, hc2⟩ := TextsAt.ne HX.out (k := k) (by rw [← HN.out]; exact hlt)
          have hcell := hc2 k (by rw [← HN.out]; exact hlt)
          rw [← hbw.cell (p := ⟨b2, off + k, none⟩) hb2] at hcell
          have hsz := HW.out _ (List.getElem_mem (by rw [← HN.out]; exact hlt) : ts[k]'(by rw [← HN.out]; exact hlt) ∈ ts)
          rw [← getD_lt] at hsz
          have hsn := fresh_snoc D (ts := ts) (k := k) (by rw [← HN.out]; exact hlt)
          have hfl := fresh_len D ts k
          obtain ⟨y, hy⟩ : ∃ y, y = ts.getD k ByteArray.empty := ⟨_, rfl⟩
          rw [← hy] at hcell hsz hsn
          obtain ⟨fs, hfs⟩ : ∃ fs, fs = freshOf D (ts.take k) := ⟨_, rfl⟩
          rw [← hfs] at hsn Hr hfl
          have HSN := Lib.hid hsn
          have hst := S3.out.below hbw
          have hlb := hbw.size
          have hb2' : b2 < wr.heap.size := Nat.lt_of_lt_of_le hb2 hlb
          clear hc2 hb2 hy hsn hfs
          go_wp2_with fail
          refine (has_any b (some m) D y wr hst hsz).mono ?_
          rintro e w4 ⟨rfl, hb4⟩
          have hown := own_below Hr.out hb4
          have hbw4 : Below w3.heap.size w3 w4 := hbw.trans (hb4.mono hlb)
          rw [← hb4.cell (p := ⟨b2, off + k, none⟩) hb2'] at hcell
          clear hst hb4 Hr
          cases hh : hasS D y with
          | true =>
            have HO := Lib.hid hown
            clear hown
            go_wp2
            go_roundw
            case rel => exact ⟨k + 1, _, rfl, by go_num, by omega, by rw [HSN.out, hh]; simpa using HO, hbw4⟩
            case measure => simp [RowKit.intOf]; omega
          | false =>
            have hl4 := hbw4.size
            obtain ⟨z, hz⟩ : ∃ z, z = fs.length := ⟨_, rfl⟩
            rw [← hz] at hown hfl
            have hob : ∀ k', x.ownBlock = some k' → w3.heap.size ≤ k' := fun k' hk' => by
              rcases hown.2 with ⟨rfl, _⟩ | ⟨g, cap, cur, rfl, hbg, _⟩
              · exact absurd hk' (by simp [Value.ownBlock])
              · have : g = k' := by simpa [Value.ownBlock] using hk'
                omega
            have HZ := Lib.hid hz
            have HB4 := Lib.hid hbw4
            clear hz hbw4
            go_wp2_with (at_builtin; refine wpList_append_own_at _ rfl _ _ 22 rfl w3.heap.size 9 i0 (.string ByteArray.empty) 1 16 Try.underlying22 hi hz0 hz1 hz2 rfl (by decide) _ _ _ rfl (hown.alloc _) ⟨w4.heap.size, 0, none⟩ 1 1 [.string y] rfl rfl (cell_one_new _ _ _) (fun x hx => by simp at hx; subst hx; rfl) (by unfold maxLen; omega) (by omega) (by simp; omega) ?_; intro v' w5 hown' hgrow hnil hloc)
            have hbw5 : Below w3.heap.size w3 w5 := (HB4.out.alloc hl4 _).grown hgrow (by simp; omega) (fun k' hk' => hob k' hk')
            have hrow : w5.ownsRow w3.heap.size 9 1 v' (freshOf D (ts.take (k + 1))).length ((freshOf D (ts.take (k + 1))).map Value.string) := by
              rw [HSN.out, hh, List.length_append, List.map_append, ← HZ.out]
              exact hown'
            have HR := Lib.hid hrow
            clear hrow hown' hgrow hnil hloc hown
            go_wp2
            go_roundw
            case rel => exact ⟨k + 1, _, rfl, by go_num, by omega, HR, hbw5⟩
            case measure => simp [RowKit.intOf]; omega
        · have hltz : ¬ (k : Int) < (n : Int) := by omega
          obtain rfl : n = k := by omega
          have e0 : ts.take n = ts := List.take_of_length_le (by rw [← HN.out]; exact Nat.le_refl _)
          rw [e0] at Hr
          have hfs : ∀ s ∈ ts, s.size ≤ 140737488351232 := fun s hs => by have := HF2.out.2 s hs; omega
          have hss : ∀ s ∈ ss, s.size ≤ 140737488351232 := fun s hs => by have := HF.out.2 s hs; omega
          have hLl : (freshOf D ts).length ≤ 300 := by
            have := List.length_filter_le (fun x => !hasS D x) ts
            have h2 := HN.out
            unfold freshOf; omega
          have hLs : ∀ s ∈ freshOf D ts, s.size ≤ 140737488351232 := fun s hs => hfs s (List.mem_filter.1 hs).1
          obtain ⟨hT, hA⟩ := texts_row (b := b) (m := m) Hr.out (by omega) hLs sb sm
          have htd : Tidy D := by rw [HD.out]; exact tidy_setOf ss
          have hfi : Fits D := by rw [HD.out]; exact fits_addAll ss _ fits_none tidy_empty hss
          have z1 : Maps.size D ≤ 300 := by
            have := (size_addAll ss (.map []) tidy_empty).2
            have e : Maps.size (.map [] : DU) = 0 := rfl
            have h2 := HF.out.1
            rw [HD.out]; omega
          have hfl2 := (size_addAll ts D htd).2
          have htd2 := tidy_addAll ts D htd
          have hfi2 := fits_addAll ts D hfi htd hfs
          have hb1 : Maps.size (delAll (addAll D ts) (freshOf D ts)) = Maps.size D := by rw [HD.out]; exact back_size ss ts
          have hb2 : sortedS (delAll (addAll D ts) (freshOf D ts)) = sortedS D := by rw [HD.out]; exact back_sorted ss ts
          have hb3 : addAll (delAll (addAll D ts) (freshOf D ts)) ss = delAll (addAll D ts) (freshOf D ts) := by rw [HD.out]; exact back_first ss ts
          have hfi3 := fits_delAll (freshOf D ts) _ hfi2 htd2
          obtain ⟨L, hL⟩ : ∃ L, L = freshOf D ts := ⟨_, rfl⟩
          rw [← hL] at hT hA hb1 hb2 hb3 hfi3 hLl
          obtain ⟨D2, hD2⟩ : ∃ D2, D2 = addAll D ts := ⟨_, rfl⟩
          rw [← hD2] at hb1 hb2 hb3 hfi3 hfl2 htd2
          obtain ⟨D3, hD3⟩ : ∃ D3, D3 = delAll D2 L := ⟨_, rfl⟩
          rw [← hD3] at hb1 hb2 hb3 hfi3
          have hok : Ok w wr b m D [(x, L), (v, ss), (.slice a n c, ts)] := ⟨H3.out.trans (hbw.mono H3.out.size), S3.out.below hbw, fun p hp => by
            simp at hp
            rcases hp with rfl | rfl | rfl
            · exact ⟨hT, hA⟩
            · exact ⟨TV.out.below hbw, AV.out⟩
            · exact ⟨TU.out.below hbw, AU.out⟩, LB.out, LM.out, MB.out⟩
          have HO := Lib.hid hok
          have FI := Lib.hid hfi
          have FI3 := Lib.hid hfi3
          have B1 := Lib.hid hb1
          have B2 := Lib.hid hb2
          have B3 := Lib.hid hb3
          have ED2 := Lib.hid hD2
          have ED3 := Lib.hid hD3
          have hz2 : Maps.size D2 ≤ 600 := by have hn2 := HN.out; omega
          clear hT hA hok hbw Hr hfs hLs hfi hfi2 hfi3 hb1 hb2 hb3 hD2 hD3 hL e0 htd htd2 hfl2 HX HW H3 S3 TV AV TU AU hss LB LM MB
          have HC := Lib.hid (list_any b (some m) D wr HO.out.set (by omega) FI.out)
          go_wp2_with fail
          refine HC.out.mono ?_
          clear HC
          rintro e w5 ⟨x5, rfl, hnt, hb5⟩
          have hok5 := (HO.out.step hb5).push hnt.1 (new_away hnt (Nat.lt_of_lt_of_le HO.out.set.1 (Nat.le_refl _)) HO.out.ltm)
          have HO5 := Lib.hid hok5
          clear HO hnt hb5 hok5
          have HC := Lib.hid (len_any b (some m) D w5 HO5.out.set)
          go_wp2_with fail
          refine HC.out.mono ?_
          clear HC
          rintro e w5 ⟨rfl, rfl⟩
          have HC := Lib.hid (add_any b (some m) D (.slice a n c) ts w5 HO5.out.set (fun m' h => by obtain rfl := Option.some.inj h; exact HO5.out.ne) (HO5.out.txt (.slice a n c, ts) (by simp)).1 (HO5.out.txt (.slice a n c, ts) (by simp)).2 (by have := HN.out; omega))
          go_wp2_with fail
          refine HC.out.mono ?_
          clear HC
          rintro e w6 hp6
          have he6 := hp6.1
          have hok6 := HO5.out.add hp6
          rw [← ED2.out] at he6 hok6
          subst he6
          have HO6 := Lib.hid hok6
          clear HO5 hp6 hok6
          have HC := Lib.hid (len_any b (some m) D2 w6 HO6.out.set)
          go_wp2_with fail
          refine HC.out.mono ?_
          clear HC
          rintro e w6 ⟨rfl, rfl⟩
          have HC := Lib.hid (del_any b (some m) D2 x L w6 HO6.out.set (fun m' h => by obtain rfl := Option.some.inj h; exact HO6.out.ne) (HO6.out.txt (x, L) (by simp)).1 (HO6.out.txt (x, L) (by simp)).2 (by omega))
          go_wp2_with fail
          refine HC.out.mono ?_
          clear HC
          rintro e w7 hp7
          have he7 := hp7.1
          have hok7 := HO6.out.del hp7
          rw [← ED3.out] at he7 hok7
          rw [B1.out] at he7
          subst he7
          have HO7 := Lib.hid hok7
          clear HO6 hp7 hok7
          go_wp2_with fail
          refine (alive_any _).mono ?_
          rintro e w8 ⟨rfl, hb8⟩
          have HO8 := Lib.hid (HO7.out.step hb8)
          clear HO7 hb8
          have HC := Lib.hid (list_any b (some m) D3 w8 HO8.out.set (by rw [B1.out]; omega) FI3.out)
          go_wp2_with fail
          refine HC.out.mono ?_
          clear HC
          rintro e w9 ⟨x9, rfl, hnt, hb9⟩
          rw [B2.out] at hnt
          have HO9 := Lib.hid (HO8.out.step hb9)
          have HX9 := Lib.hid hnt.1
          clear HO8 hb9 hnt
          have HC := Lib.hid (same_any x9 x5 _ _ w9 HX9.out (HO9.out.txt (x5, sortedS D) (by simp)).1)
          go_wp2_with fail
          refine HC.out.mono ?_
          clear HC
          rintro e w10 ⟨rfl, hb10⟩
          rw [show decide True = true from rfl]
          have HO10 := Lib.hid (HO9.out.step hb10)
          clear HO9 hb10 HX9
          have HC := Lib.hid (add_any b (some m) D3 v ss w10 HO10.out.set (fun m' h => by obtain rfl := Option.some.inj h; exact HO10.out.ne) (HO10.out.txt (v, ss) (by simp)).1 (HO10.out.txt (v, ss) (by simp)).2 (by rw [B1.out]; have := HF.out.1; omega))
          go_wp2_with fail
          refine HC.out.mono ?_
          clear HC
          rintro e w11 hp11
          have he11 := hp11.1
          have hfin := (HO10.out.add hp11).below
          rw [B3.out, Int.sub_self] at he11
          subst he11
          have HFIN := Lib.hid hfin
          clear HO10 hp11 hfin
          go_wp2
          go_ret
          exact ⟨rfl, HFIN.out⟩

end Go.Proofs.Ytakekmodimnadaa
