/-
  The walk of NameSets.
-/
import Derived.Test.YtgbknjpjhkegdaaGreatSetsD
import Derived.Test.YtgbknjpjhkegdaaGreatSetsP
import Derived.Deep.DeepCutAuto
import Derived.Deep.CutBlock
namespace Go.Proofs.YtgbknjpjhkegdaaGreat
open Go.RowKit Go.Maps Go.WideMaps
set_option linter.unusedVariables false

theorem OpsAt.form {w : World} {v : Value} {ops : List Op} (h : OpsAt w v ops) : ∃ a c, v = .slice a ops.length c := by
  obtain ⟨a, c, e, _⟩ := h
  exact ⟨a, c, e⟩

set_option maxRecDepth 100000 in
/-- Where the first texts are too long, or the calls too many. -/
theorem NameSets_bad (v : Value) (first : List ByteArray) (o : ByteArray) (owned zero : Bool) (u : Value) (ops : List Op) (w : World) (hv : TextsAt w v first) (hu : OpsAt w u ops) (h : shortB 300 9000 first = false ∨ 200 < ops.length) :
    Calls Tryz.prog 4 #[v, .string o, .bool owned, .bool zero, u] w fun e w' => e = .returned (.bool true) ∧ Below w.heap.size w w' := by
  have HS := Lib.hid (shorts_any v first w hv)
  have HAL := Lib.hid (fun W => alive_any W)
  obtain ⟨au, cu, rfl⟩ := hu.form
  obtain ⟨n, hn⟩ : ∃ n, n = ops.length := ⟨_, rfl⟩
  rw [← hn] at h ⊢
  clear hv hu hn
  cases hb : shortB 300 9000 first with
  | false =>
    rw [hb] at HS
    clear h hb
    go_enter Tryz.func4, Tryz.ntmps4
    go_wp2_with fail
    refine HS.out.mono ?_
    rintro e w1 ⟨rfl, hb1⟩
    go_wp2_with fail
    refine (HAL.out _).mono ?_
    rintro e w2 ⟨rfl, hb2⟩
    go_wp2_with fail
    go_ret
    exact ⟨rfl, hb1.trans (hb2.mono hb1.size)⟩
  | true =>
    rw [hb] at HS
    have hnz : (200 : Int) < (n : Int) := by
      rcases h with h | h
      · rw [hb] at h; cases h
      · omega
    clear h hb
    go_enter Tryz.func4, Tryz.ntmps4
    go_wp2_with fail
    refine HS.out.mono ?_
    rintro e w1 ⟨rfl, hb1⟩
    go_wp2_with fail
    refine (HAL.out _).mono ?_
    rintro e w2 ⟨rfl, hb2⟩
    go_wp2_with fail
    go_ret
    exact ⟨rfl, hb1.trans (hb2.mono hb1.size)⟩

set_option maxRecDepth 100000 in
set_option maxHeartbeats 8000000 in
theorem NameSets_good (v : Value) (first : List ByteArray) (o : ByteArray) (owned zero : Bool) (u : Value) (ops : List Op) (w : World) (ho : o.size ≤ 140737488351232) (hv : TextsAt w v first) (hu : OpsAt w u ops) (h : shortB 300 9000 first = true) (hn200 : ops.length ≤ 200) :
    Calls Tryz.prog 4 #[v, .string o, .bool owned, .bool zero, u] w fun e w' => e = .returned (.bool true) ∧ Below w.heap.size w w' := by
  have hfit := short_fit h
  have hl : first.length ≤ 300 := by have := hfit.1; omega
  have hs : ∀ s ∈ first, s.size ≤ 100000 := fun s hsm => by have := hfit.2 s hsm; omega
  have hs2 : ∀ s ∈ first, s.size ≤ 140737488351232 := fun s hsm => by have := hs s hsm; omega
  have HS := Lib.hid (shorts_any v first w hv)
  rw [h] at HS
  have HL := Lib.hid hl
  have HSS := Lib.hid hs2
  have HSH0 : Hid (ShortSet (addAll (.map []) first)) := Lib.hid (short_add (fun y hy => by rw [hasS_none] at hy; cases hy) tidy_empty hs)
  have HV := Lib.hid (fun W (hb : Below w.heap.size w W) => hv.below hb)
  have HAL := Lib.hid (fun W => alive_any W)
  have HLE := Lib.hid (fun W (hb : Below w.heap.size w W) => lentT_any v first W (hv.below hb) (by omega))
  have HRS := Lib.hid (fun W (hb : Below w.heap.size w W) => refSort_any v first W (hv.below hb) (by omega) hs)
  have HOW := Lib.hid (fun W (hb : Below w.heap.size w W) => own_any o v first W ho (hv.below hb) (by omega))
  have HU := Lib.hid hu
  obtain ⟨au, cu, rfl⟩ := hu.form
  obtain ⟨n, hn⟩ : ∃ n, n = ops.length := ⟨_, rfl⟩
  rw [← hn] at hn200 HU ⊢
  have HN := Lib.hid hn
  have hnz : ¬ (200 : Int) < (n : Int) := by omega
  clear h hfit hl hs hs2 hv hu hn ho
  go_enter Tryz.func4, Tryz.ntmps4
  go_wp2_with fail
  refine HS.out.mono ?_
  rintro e w0 ⟨rfl, hb0⟩
  have HB0 := Lib.hid hb0
  have HL1 := Lib.hid (HLE.out w0 hb0)
  clear hb0 HS
  go_wp2_with fail
  refine HL1.out.mono ?_
  rintro e w1 ⟨m, rfl, hm, hb1⟩
  have HB1 := Lib.hid (HB0.out.trans (hb1.mono HB0.out.size))
  have hmt := lent_texts hm (by have := HL.out; omega) HSS.out
  have HM := Lib.hid hm
  have HGM : Hid (∀ k, m.ownBlock = some k → w0.heap.size ≤ k ∧ k < w1.heap.size) := Lib.hid (by
    obtain ⟨g', c', rfl, _, hr⟩ := hm
    exact fun k hk => hr.lt k hk)
  have HMT := Lib.hid hmt
  have HNE := Lib.hid (new_any m first w1 hmt (by have := HL.out; omega))
  clear hm hb1 hmt HL1
  go_wp2_with fail
  refine HNE.out.mono ?_
  rintro e w2 ⟨hb2, b, q, rfl, hlb, hlq, hqb, hs1⟩
  have HB2 := Lib.hid hb2
  have HS1 := Lib.hid hs1
  have HO2 := Lib.hid (HOW.out w2 (HB1.out.trans (hb2.mono HB1.out.size)))
  clear hb2 hs1 HNE
  go_wp2_with fail
  refine HO2.out.mono ?_
  rintro e w3 ⟨hb3, b2, q2, rfl, hlb2, hlq2, hqb2, hs2⟩
  have HB3 := Lib.hid hb3
  have HS2 := Lib.hid hs2
  clear hb3 hs2 HO2
  have HH1 := Lib.hid (show w1.heap.size ≤ b2 by have := HB2.out.size; omega)
  have HQ1 := Lib.hid (show w1.heap.size ≤ q2 by have := HB2.out.size; omega)
  have HG0 := Lib.hid (heap_alloc_new w3 (.cells #[.pointer (some ⟨b2, 0, none⟩), .string o] 56))
  have HA4 : Hid (Below w3.heap.size w3 (w3.alloc (.cells #[.pointer (some ⟨b2, 0, none⟩), .string o] 56))) := Lib.hid ((Below.refl _ _).alloc (Nat.le_refl _) _)
  have HS14 := Lib.hid ((HS1.out.below HB3.out).below HA4.out)
  have HS24 := Lib.hid (HS2.out.below HA4.out)
  obtain ⟨g, hg⟩ : ∃ g, g = w3.heap.size := ⟨_, rfl⟩
  have HGE := Lib.hid hg
  go_upto_if 41 with fail
  rw [← hg] at HG0
  simp only [← hg]
  clear hg
  generalize hw4 : w3.alloc (.cells #[.pointer (some ⟨b2, 0, none⟩), .string o] 56) = w4 at *
  clear hw4
  have hc0 : w4.cell? ⟨g, 0, none⟩ = some (.pointer (some ⟨b2, 0, none⟩)) := by rw [cell_of_row _ _ _ _ _ (0, 0) HG0.out]; rfl
  go_cut [12] (fun s wx => ∃ sb q', s = .pointer (some ⟨sb, 0, none⟩) ∧ Hid (SetAt w4 sb (some q') (addAll (.map []) first) ∧ q' ≠ sb ∧ w1.heap.size ≤ sb ∧ w1.heap.size ≤ q' ∧ (owned = true → sb = b2)) ∧ wx = w4)
  case first =>
    cases owned
    · go_wp2_with fail
      go_meet
      exact ⟨b, q, rfl, Lib.hid ⟨HS14.out, hqb, hlb, hlq, fun h => by cases h⟩, rfl⟩
    · go_wp2_with fail
      go_meet
      exact ⟨b2, q2, rfl, Lib.hid ⟨HS24.out, hqb2, HH1.out, HQ1.out, fun _ => rfl⟩, rfl⟩
  case rest =>
    obtain ⟨sb, q', rfl, HSB, rfl⟩ := hcut
    have HB14 := Lib.hid ((HB2.out.trans (HB3.out.mono HB2.out.size)).trans (HA4.out.mono (by have := HB2.out.size; have := HB3.out.size; omega)))
    have HW14 := Lib.hid (HB1.out.trans (HB14.out.mono HB1.out.size))
    have HR4 := Lib.hid (HRS.out wc HW14.out)
    have HLS4 := Lib.hid (lent_below HM.out HB14.out)
    clear HS14 HS24 HS1 HS2 HOW HLE HRS hqb hqb2 hlb hlq hlb2 hlq2 hc0 HM HMT
    go_wp2_with fail
    refine HR4.out.mono ?_
    rintro e w5 ⟨nv, rfl, hnv, hb5⟩
    have HB5 := Lib.hid hb5
    have HP5 : Hid (PreNow w w1.heap.size sb (if owned = true then some g else none) w5 (some q') (addAll (.map []) first) nv (sortedS (addAll (.map []) first))) := Lib.hid (by
      obtain ⟨k1, k2, k3, k4, k5⟩ := HSB.out
      refine ⟨HW14.out.trans (hb5.mono HW14.out.size), HB1.out.size, k3, k1.below hb5, fun m' hm' => ?_, tidy_addAll _ _ tidy_empty, strMap_addAll _ _ strMap_none, fits_addAll first _ fits_none tidy_empty HSS.out, ?_, fun g' hg' => ?_⟩
      · injection hm' with hm'
        subst hm'
        exact ⟨k2, k4⟩
      · have e2 : sortedS (addAll (.map []) first) = refS first := (sortS_refS first).symm
        rw [e2]
        have := k1.1
        exact own_le hnv fun k hk => by have := (hnv.lt k hk).1; omega
      · by_cases how : owned = true
        · rw [if_pos how] at hg'
          injection hg' with hg'
          subst hg'
          have hlt := (Array.getElem?_eq_some_iff.1 HG0.out).1
          have hc0 : wc.cell? ⟨g, 0, none⟩ = some (.pointer (some ⟨b2, 0, none⟩)) := by rw [cell_of_row _ _ _ _ _ (0, 0) HG0.out]; rfl
          have hge := HGE.out
          have h2 := HB2.out.size
          have h3 := HB3.out.size
          refine ⟨by omega, fun e => ?_, _, _, _, (hb5.block g hlt).trans HG0.out, (hb5.cell (p := ⟨g, 0, none⟩) hlt).trans (by rw [hc0, k5 how])⟩
          have := k1.2.2.1
          rw [← e, hc0] at this
          cases this
        · rw [if_neg how] at hg'; cases hg')
    clear hnv hb5 HR4 HSB
    go_upto_if 46 with fail
    go_cut [12, 14] (fun s s2 wx => ∃ sb' p D, s = .pointer (some ⟨sb', 0, none⟩) ∧ Hid (PreNow w w1.heap.size sb' (if (owned && !zero) = true then some g else none) wx p D s2 (sortedS D) ∧ (Maps.size D ≤ 300 ∧ ShortSet D) ∧ Below w5.heap.size w5 wx))
    case first =>
      cases zero
      · go_wp2_with fail
        go_meet
        have hz : Maps.size (addAll (.map []) first) ≤ 300 := by
          have := (size_addAll first (.map []) tidy_empty).2
          have e : Maps.size (.map [] : DU) = 0 := rfl
          have := HL.out
          omega
        exact ⟨sb, some q', _, rfl, Lib.hid ⟨by simpa using HP5.out, ⟨hz, HSH0.out⟩, Below.refl _ _⟩⟩
      · go_wp2_with fail
        go_meet
        have hb6 : Below w5.heap.size w5 (w5.alloc (.cells #[.map none] 60)) := (Below.refl _ _).alloc (Nat.le_refl _) _
        have h1 := HP5.out.below
        have h2 := HB14.out.size
        have h3 := HB5.out.size
        refine ⟨w5.heap.size, none, .map [], rfl, Lib.hid ⟨⟨h1.trans (hb6.mono h1.size), HB1.out.size, by omega, ⟨by simp, by simp, by simp, .inl ⟨rfl, rfl⟩⟩, fun m' hm' => (by cases hm'), tidy_empty, strMap_none, fits_none, ?_, fun g' hg' => ?_⟩, ⟨by decide, fun y hy => by rw [hasS_none] at hy; cases hy⟩, hb6⟩⟩
        · rw [show sortedS (.map [] : DU) = [] by simp [sortedS, sortedL, strKeys]]
          exact World.ownsRow_nil _ _ _ _
        · rw [if_neg (by simp)] at hg'; cases hg'
    case rest =>
      obtain ⟨sb', p, D, rfl, HPN⟩ := hcut
      have HLS6 := Lib.hid (lent_below (lent_below HLS4.out HB5.out) HPN.out.2.2)
      have HW6 := Lib.hid HPN.out.1.below
      have HST := Lib.hid (stays_any m v first w0.heap.size wc HLS6.out (lent_texts HLS6.out (by have := HL.out; omega) HSS.out) (HV.out wc HW6.out) (by have := HL.out; omega))
      have hc1 : wc.cell? ⟨g, 1, none⟩ = some (.string o) := by
        have hlt := (Array.getElem?_eq_some_iff.1 HG0.out).1
        have hlt5 := HB5.out.size
        exact (HPN.out.2.2.cell (p := ⟨g, 1, none⟩) (by show g < _; omega)).trans ((HB5.out.cell (p := ⟨g, 1, none⟩) hlt).trans (by rw [cell_of_row _ _ _ _ _ (0, 0) HG0.out]; rfl))
      have hoo : (o.toList != o.toList) = false := by simp
      clear HP5 HLS4
      go_wp2_with fail
      refine HST.out.mono ?_
      rintro e w7 ⟨rfl, hb7⟩
      have HPN7 := Lib.hid (HPN.out.1.step hb7)
      have HLS7 := Lib.hid (lent_below HLS6.out hb7)
      have HDS := Lib.hid HPN.out.2.1
      clear hc1 hoo hb7 HLS6 HST HPN HW6 HG0 HB5 HA4 HGE HB14 HW14
      obtain ⟨gm, cm, rfl, hcm, hrow⟩ := HLS7.out
      obtain ⟨k, hk⟩ : ∃ k, k = first.length := ⟨_, rfl⟩
      rw [← hk] at hcm hrow ⊢
      have hgm : Hid (w0.heap.size ≤ gm ∧ gm < w1.heap.size) := Lib.hid (HGM.out gm rfl)
      have HR7 := Lib.hid hrow
      have hk3 : k ≤ 300 := by rw [hk]; exact HL.out
      clear hrow HLS7 hk
      clear HGM
      go_wp2_with fail
      go_loopw [15] (fun i wr => ∃ (j : Nat) (xs : List Value), i = .int .i64 j ∧ j ≤ k ∧ Hid (wr.ownsRow w0.heap.size 9 1 (.slice (some ⟨gm, 0, none⟩) (k + 1) cm) (k + 1) xs ∧ Turned (fun q => q = gm) w7 wr)) (fun i _ => (k - RowKit.intOf i).toNat)
      case atStart => exact ⟨0, _, rfl, Nat.zero_le _, Lib.hid ⟨HR7.out, Turned.refl _ _⟩⟩
      case round =>
        obtain ⟨j, xs, rfl, hj, HX⟩ := hrel
        by_cases hlt : j < k
        · have hltz : (j : Int) < (k : Int) := by omega
          have hj0 : (0 : Int) ≤ (j : Int) := by omega
          have x0 : ∃ x, wr.cell? ⟨gm, j, none⟩ = some x := by
            have hl := HX.out.1.1
            exact ⟨xs[j], by rw [HX.out.1.cellAt j (by omega)]; exact List.getElem?_eq_getElem (by omega)⟩
          obtain ⟨x, x0⟩ := x0
          have f0 := HX.out.1.frozenAt j
          have HST2 := Lib.hid (fun u => (HX.out.1.stored j u).1)
          go_wp2_with fail
          go_roundw
          case rel => exact ⟨j + 1, _, by go_num, by omega, Lib.hid ⟨HST2.out _, HX.out.2.setCell (p := ⟨gm, j, none⟩) rfl _⟩⟩
          case measure => simp [RowKit.intOf]; omega
        · have hltz : ¬ (j : Int) < (k : Int) := by omega
          have HP8 := Lib.hid (HPN7.out.turn HX.out.2 (fun q hq => by have := hgm.out; have := HB0.out.size; subst hq; omega))
          have HS8 := Lib.hid (HP8.out.book (Z := #[.slice none 0 0, .slice none 0 0, .slice none 0 0, .slice none 0 0, .slice none 0 0, .slice none 0 0, .slice none 0 0, .slice none 0 0, .slice none 0 0, .slice none 0 0, .slice none 0 0, .slice none 0 0, .slice none 0 0, .slice none 0 0, .slice none 0 0, .slice none 0 0, .slice none 0 0, .slice none 0 0, .slice none 0 0, .slice none 0 0, .slice none 0 0, .slice none 0 0, .slice none 0 0, .slice none 0 0, .slice none 0 0, .slice none 0 0, .slice none 0 0, .slice none 0 0, .slice none 0 0, .slice none 0 0, .slice none 0 0, .slice none 0 0, .slice none 0 0, .slice none 0 0]) rfl)
          obtain ⟨bk, hbk⟩ : ∃ bk, bk = wr.heap.size := ⟨_, rfl⟩
          have HBK := Lib.hid hbk
          clear hbk HX HP8 HPN7
          go_wp2_with fail
          rw [← HBK.out] at HS8
          simp only [← HBK.out]
          obtain ⟨own, how⟩ : ∃ own, own = (if (owned && !zero) = true then some g else none) := ⟨_, rfl⟩
          rw [← how] at HS8
          have HOWN := Lib.hid how
          clear how
          go_loopw [14, 17] (fun s i wr => ∃ (q : Nat) (p : Option Nat) (D : DU) (nx : Value), nx = s ∧ i = .int .i64 q ∧ q ≤ n ∧ Hid (SetsNow w sb' bk own none wr p D nx (sortedS D) q ∧ Maps.size D ≤ 300 + 300 * q ∧ ShortSet D)) (fun _ i _ => (n - RowKit.intOf i).toNat)
          case atStart => exact ⟨0, p, D, _, rfl, rfl, Nat.zero_le _, Lib.hid ⟨HS8.out, by have := HDS.out.1; omega, HDS.out.2⟩⟩
          case round =>
            obtain ⟨q, p, D, nx, rfl, rfl, hq, HI⟩ := hrel
            clear HS8 HDS
            by_cases hlt : q < n
            · have hltz : (q : Int) < (n : Int) := by omega
              have hq0 : (0 : Int) ≤ (q : Int) := by omega
              obtain ⟨hv', kd, L, ho1, ho2, ho3, bo, offo, rfl, c0, c1, hbo⟩ : ∃ (hv' : Value) (kd : Int) (L : List ByteArray), (Lit.int .i64 kd).wf = true ∧ TextsAt w hv' L ∧ True ∧ ∃ bo offo, au = some ⟨bo, offo, none⟩ ∧ w.cell? ⟨bo, offo + q * 2, none⟩ = some (.int .i64 kd) ∧ w.cell? ⟨bo, offo + q * 2 + 1, none⟩ = some hv' ∧ bo < w.heap.size := by
                obtain ⟨a', c', e, h1, h2⟩ := HU.out
                have hq' : q < ops.length := by rw [← HN.out]; exact hlt
                obtain ⟨h3, h4⟩ := h1 ops[q] (List.getElem_mem hq')
                rcases h2 with h2 | ⟨bo, offo, e2, hbo, hc⟩
                · rw [h2] at hq'; simp at hq'
                · injection e with e _ _
                  subst e
                  obtain ⟨c0, c1⟩ := hc q hq'
                  exact ⟨ops[q].2.1, ops[q].1, ops[q].2.2, h3, h4, trivial, bo, offo, e2, c0, by rw [Nat.add_assoc]; exact c1, hbo⟩
              have hbw := HI.out.1.below
              rw [← hbw.cell (p := ⟨bo, _, none⟩) hbo] at c0 c1
              have HTX := Lib.hid ho2
              obtain ⟨al, cl, rfl, _, _, _⟩ := ho2
              obtain ⟨ll, hll⟩ : ∃ ll, ll = L.length := ⟨_, rfl⟩
              rw [← hll] at c1 HTX
              have HLL := Lib.hid hll
              have HC1 := Lib.hid (HI.out.1.call (cx := #[.int .i64 kd, .slice al ll cl]))
              obtain ⟨bx, hbx⟩ : ∃ bx, bx = wr.heap.size := ⟨_, rfl⟩
              have HBX := Lib.hid hbx
              rw [← hbx] at HC1
              have HSH := Lib.hid (fun W (hb : Below w.heap.size w W) => shorts_any (.slice al ll cl) L W (HTX.out.below hb))
              clear hbw ho3 hll hbx
              have hce : ∀ W, SetsNow w sb' bk own (some (bx, #[.int .i64 kd, .slice al ll cl])) W p D nx (sortedS D) q → W.cell? ⟨bx, 0, none⟩ = some (.int .i64 kd) ∧ W.cell? ⟨bx, 1, none⟩ = some (.slice al ll cl) := fun W h => ⟨(h.callAt rfl 0).trans rfl, (h.callAt rfl 1).trans rfl⟩
              have hx0 := (hce _ HC1.out).1
              have hx1 := (hce _ HC1.out).2
              rw [HBX.out] at hx0 hx1
              go_wp2_with fail
              refine (HSH.out _ HC1.out.below).mono ?_
              rintro e w2 ⟨rfl, hb2⟩
              have HC2 := Lib.hid (HC1.out.step hb2)
              have hx0' := (hce _ HC2.out).1
              have hx1' := (hce _ HC2.out).2
              rw [HBX.out] at hx0' hx1'
              have HCE := Lib.hid hce
              have HMX := Lib.hid HI.out.2
              clear hce hx0 hx1 hb2 HSH HC1 HI
              cases hsb : shortB 300 9000 L with
              | false =>
                go_wp2_with fail
                go_ret
                exact ⟨rfl, HC2.out.below⟩
              | true =>
              have hfl := short_fit hsb
              have HLS : Hid (ll ≤ 300 ∧ ∀ z ∈ L, z.size ≤ 100000) := Lib.hid ⟨by have := hfl.1; have := HLL.out; omega, fun z hz => by have := hfl.2 z hz; omega⟩
              have hll3 : ll ≤ 300 := HLS.out.1
              have HCL : Hid (∀ j, j < ll → ∃ bl offl, al = some ⟨bl, offl, none⟩ ∧ bl < w.heap.size ∧ w.cell? ⟨bl, offl + j, none⟩ = some (.string (L.getD j ByteArray.empty)) ∧ (L.getD j ByteArray.empty).size ≤ 100000) := Lib.hid (fun j hj => by
                have hj' : j < L.length := by rw [← HLL.out]; exact hj
                obtain ⟨bl, offl, e, _, hbl, hcl⟩ := TextsAt.cellAt HTX.out hj'
                exact ⟨bl, offl, e, hbl, hcl j hj', HLS.out.2 _ (mem_getD hj')⟩)
              clear hfl hsb
              go_upto_block 4 with fail
              simp only [← HBX.out] at hx0' hx1' ⊢
              go_cut [14] (fun s wx => ∃ p' D', Hid (SetsNow w sb' bk own (some (bx, #[.int .i64 kd, .slice al ll cl])) wx p' D' s (sortedS D') q ∧ Maps.size D' ≤ 300 + 300 * (q + 1) ∧ ShortSet D'))
              case first =>
                by_cases hk1 : kd = 1
                · subst hk1
                  as_aux_lemma =>
                    have hsd : Maps.size D ≤ 300 + 300 * q := HMX.out.1
                    go_wp2_with fail
                    go_loopw [14, 19, 20] (fun s n' i wr => ∃ (j c : Nat) (x : Value), x = s ∧ i = .int .i64 j ∧ n' = .int .i64 c ∧ j ≤ ll ∧ c ≤ j ∧ Hid (SetsNow w sb' bk own (some (bx, #[.int .i64 1, .slice al ll cl])) wr p D x (sortedS (addAll D (L.take j))) q ∧ Maps.size (addAll D (L.take j)) = Maps.size D + c)) (fun _ _ i _ => (ll - RowKit.intOf i).toNat)
                    case atStart => exact ⟨0, 0, _, rfl, rfl, rfl, Nat.zero_le _, Nat.le_refl _, Lib.hid ⟨HC2.out, rfl⟩⟩
                    case round =>
                      obtain ⟨j, c, x, rfl, rfl, rfl, hj, hc, HJ⟩ := hrel
                      have y0 := (HCE.out _ HC2.out)
                      have z1 : wr.cell? ⟨bx, 1, none⟩ = some (.slice al ll cl) := (HJ.out.1.callAt rfl 1).trans rfl
                      clear y0 hx0' hx1'
                      by_cases hjl : j < ll
                      · have hjz : (j : Int) < (ll : Int) := by omega
                        have hj0 : (0 : Int) ≤ (j : Int) := by omega
                        obtain ⟨bl, offl, rfl, hbl, t0, hts⟩ := HCL.out j hjl
                        have t1 := (HJ.out.1.below.cell (p := ⟨bl, offl + j, none⟩) hbl).trans t0
                        have htk := addAll_take D (ss := L) (j := j) (by rw [← HLL.out]; exact hjl)
                        obtain ⟨t, ht⟩ : ∃ t, t = L.getD j ByteArray.empty := ⟨_, rfl⟩
                        rw [← ht] at t1 hts htk t0
                        obtain ⟨Dj, hDj⟩ : ∃ Dj, Dj = addAll D (L.take j) := ⟨_, rfl⟩
                        rw [← hDj] at HJ htk
                        have HTK := Lib.hid htk
                        have htj : Tidy Dj := by rw [hDj]; exact tidy_addAll _ _ HC2.out.tidy
                        have hstj : StrMap Dj := by rw [hDj]; exact strMap_addAll _ _ HC2.out.str
                        have hshj : ShortSet Dj := by rw [hDj]; exact short_add HMX.out.2 HC2.out.tidy (fun z hz => HLS.out.2 z (List.mem_of_mem_take hz))
                        have hszj : (sortedS Dj).length ≤ 61000 := by rw [sortedS_length, HJ.out.2]; omega
                        have hssz : ∀ z ∈ sortedS Dj, z.size ≤ 100000 := fun z hz => hshj z ((mem_sortedS hstj z).1 hz)
                        have HNT := Lib.hid (fun W (hb : Below wr.heap.size wr W) => (HJ.out.1.step hb).texts (by omega) (fun z hz => by have := hssz z hz; omega))
                        have HHA := Lib.hid (hasl_any x (sortedS Dj) t wr (HNT.out wr (Below.refl _ _)))
                        rw [memB_sorted hstj] at HHA
                        have HTD := Lib.hid htj
                        have HST := Lib.hid hstj
                        have HSZ := Lib.hid hssz
                        have HLJ := Lib.hid hszj
                        have HTS := Lib.hid hts
                        have HT0 := Lib.hid (fun W (hb : Below wr.heap.size wr W) => (HJ.out.1.step hb).below.cell (p := ⟨bl, offl + j, none⟩) hbl |>.trans t0)
                        have HZ1 := Lib.hid (fun W (hb : Below wr.heap.size wr W) => (((HJ.out.1.step hb).callAt rfl 1).trans rfl : W.cell? ⟨bx, 1, none⟩ = some (.slice (some ⟨bl, offl, none⟩) ll cl)))
                        clear ht hDj htk htj hstj hshj hszj hssz hts hbl t0
                        cases hh : hasS Dj t with
                        | true =>
                          rw [hh] at HHA
                          have HSAME := Lib.hid (now_same t hh)
                          clear hh
                          go_wp2_with fail
                          refine HHA.out.mono ?_
                          rintro e w' ⟨rfl, rfl⟩
                          go_wp2_with fail
                          go_roundw
                          case rel => exact ⟨j + 1, c, x, rfl, by go_num, rfl, by omega, by omega, by rw [HTK.out, HSAME.out]; exact HJ⟩
                          case measure => simp [RowKit.intOf]; omega
                        | false =>
                          rw [hh] at HHA
                          have HFR := Lib.hid (now_add HST.out HTD.out t hh)
                          have HSF := Lib.hid (size_fresh HTD.out t hh)
                          clear hh
                          go_wp2_with fail
                          refine HHA.out.mono ?_
                          rintro e w' ⟨rfl, rfl⟩
                          go_wp2_with fail
                          obtain ⟨⟨a1, w1', a2, w2', r1, r2, q2', b1', b2'⟩, ⟨d1, v1, d2, v2, s1, s2, p2', e1', e2'⟩⟩ := snocStep (W := wr.drew) (x := t) (HNT.out wr.drew (Below.drew (Below.refl _ _))) (by have := HLJ.out; omega)
                          have hm : ∀ z ∈ sortedS Dj ++ [t], z.size ≤ 100000 := fun z hz => by
                            rcases List.mem_append.1 hz with hz | hz
                            · exact HSZ.out z hz
                            · rw [List.mem_singleton.1 hz]; exact HTS.out
                          have hbA : Below wr.heap.size wr w2' := (Below.drew (Below.refl _ _)).trans b2'
                          have hbB : Below wr.heap.size wr v2 := (Below.drew (Below.refl _ _)).trans e2'
                          have hlen2 : (sortedS Dj ++ [t]).length ≤ 61001 := by have := HLJ.out; simp; omega
                          have HSA := Lib.hid (refSort_any a2 (sortedS Dj ++ [t]) w2' (ownT_texts q2' (by omega) (fun z hz => by have := hm z hz; omega)) (by omega) hm)
                          have HSB := Lib.hid (refSort_any d2 (sortedS Dj ++ [t]) v2 (ownT_texts p2' (by omega) (fun z hz => by have := hm z hz; omega)) (by omega) hm)
                          have HNEW : Hid (∀ (w3 w4 : World) (v' : Value), Below wr.heap.size wr w3 → OwnT w4 w3.heap.size v' (refS (sortedS Dj ++ [t])) → Below w3.heap.size w3 w4 → SetsNow w sb' bk own (some (bx, #[.int .i64 1, .slice (some ⟨bl, offl, none⟩) ll cl])) w4 p D v' (sortedS (addAll D (L.take (j + 1)))) q) := Lib.hid (fun w3 w4 v' h1 h2 h3 => by
                            rw [HTK.out, ← HFR.out]
                            have h4 := (HJ.out.1.step h1)
                            exact (h4.step h3).renow h2 h4.bkLt)
                          have g0 := HT0.out wr (Below.refl _ _)
                          have g1 : w1'.cell? ⟨bl, offl + j, none⟩ = some (.string t) ∧ w1'.cell? ⟨bx, 1, none⟩ = some (.slice (some ⟨bl, offl, none⟩) ll cl) := ⟨HT0.out _ ((Below.drew (Below.refl _ _)).trans b1'), HZ1.out _ ((Below.drew (Below.refl _ _)).trans b1')⟩
                          have g2 : w2'.cell? ⟨bl, offl + j, none⟩ = some (.string t) ∧ w2'.cell? ⟨bx, 1, none⟩ = some (.slice (some ⟨bl, offl, none⟩) ll cl) := ⟨HT0.out _ hbA, HZ1.out _ hbA⟩
                          have g3 : v1.cell? ⟨bl, offl + j, none⟩ = some (.string t) ∧ v1.cell? ⟨bx, 1, none⟩ = some (.slice (some ⟨bl, offl, none⟩) ll cl) := ⟨HT0.out _ ((Below.drew (Below.refl _ _)).trans e1'), HZ1.out _ ((Below.drew (Below.refl _ _)).trans e1')⟩
                          have g4 : v2.cell? ⟨bl, offl + j, none⟩ = some (.string t) ∧ v2.cell? ⟨bx, 1, none⟩ = some (.slice (some ⟨bl, offl, none⟩) ll cl) := ⟨HT0.out _ hbB, HZ1.out _ hbB⟩
                          have hal : ∀ W, Below wr.heap.size wr W → Below wr.heap.size wr (W.alloc (.cells #[.string t] 9)) := fun W hb => hb.alloc hb.size _
                          have g5 : (w1'.alloc (.cells #[.string t] 9)).cell? ⟨bl, offl + j, none⟩ = some (.string t) ∧ (w1'.alloc (.cells #[.string t] 9)).cell? ⟨bx, 1, none⟩ = some (.slice (some ⟨bl, offl, none⟩) ll cl) := ⟨HT0.out _ (hal _ ((Below.drew (Below.refl _ _)).trans b1')), HZ1.out _ (hal _ ((Below.drew (Below.refl _ _)).trans b1'))⟩
                          have g6 : (wr.drew.alloc (.cells #[.string t] 9)).cell? ⟨bl, offl + j, none⟩ = some (.string t) ∧ (wr.drew.alloc (.cells #[.string t] 9)).cell? ⟨bx, 1, none⟩ = some (.slice (some ⟨bl, offl, none⟩) ll cl) := ⟨HT0.out _ (hal _ (Below.drew (Below.refl _ _))), HZ1.out _ (hal _ (Below.drew (Below.refl _ _)))⟩
                          have HBA := Lib.hid hbA
                          have HBB := Lib.hid hbB
                          clear q2' b1' b2' p2' e1' e2' hm hlen2 hbA hbB hal
                          go_region_held3 (fun w' => w'.cell? ⟨bl, offl + j, none⟩ = some (.string t) ∧ w'.cell? ⟨bx, 1, none⟩ = some (.slice (some ⟨bl, offl, none⟩) ll cl)) (first | exact ⟨g0, z1⟩ | exact g1 | exact g2 | exact g3 | exact g4 | exact g5 | exact g6 | exact ⟨HT0.out _ hZ3, HZ1.out _ hZ3⟩)
                            (first
                              | (refine stepB_append_run (by rfl) (.const (.slice none 0 0)) (.tmp 109) 22 (.slice none 0 0) x a1 (by rfl) (by rfl) (by rfl) r1 ?_)
                              | (refine stepB_append_run (by rfl) (.const (.slice none 0 0)) (.tmp 109) 22 (.slice none 0 0) x d1 (by rfl) (by rfl) (by rfl) s1 ?_)
                              | (refine stepB_append_run (by rfl) (.tmp 110) (.tmp 116) 22 a1 (.slice (some ⟨w1'.heap.size, 0, none⟩) 1 1) a2 (by rfl) (by rfl) (by rfl) r2 ?_)
                              | (refine stepB_append_run (by rfl) (.tmp 110) (.tmp 116) 22 d1 (.slice (some ⟨wr.heap.size, 0, none⟩) 1 1) d2 (by rfl) (by rfl) (by rfl) s2 ?_)
                              | (go_at_call_of 10 a2; refine HSA.out.mono ?_; rintro e w3 ⟨v', rfl, hv3, hb3⟩; have hZ3 := HBA.out.trans (hb3.mono HBA.out.size); have HFIN := Lib.hid (HNEW.out _ _ _ HBA.out hv3 hb3))
                              | (go_at_call_of 10 d2; refine HSB.out.mono ?_; rintro e w3 ⟨v', rfl, hv3, hb3⟩; have hZ3 := HBB.out.trans (hb3.mono HBB.out.size); have HFIN := Lib.hid (HNEW.out _ _ _ HBB.out hv3 hb3)))
                          all_goals
                            clear r1 r2 s1 s2 g0 g1 g2 g3 g4 g5 g6 z1 t1 hv3 hb3 hZ3
                            go_wp2_with fail
                            go_roundw
                            case rel => exact ⟨j + 1, c + 1, _, rfl, by go_num, by go_num, by omega, by omega, Lib.hid ⟨HFIN.out, by rw [HTK.out, HSF.out, HJ.out.2]; omega⟩⟩
                            case measure => simp [RowKit.intOf]; omega
                      · have hjz : ¬ (j : Int) < (ll : Int) := by omega
                        obtain rfl : j = ll := by omega
                        have hful : L.take j = L := List.take_of_length_le (by rw [← HLL.out]; exact Nat.le_refl _)
                        rw [hful] at HJ
                        have HAD := Lib.hid (HJ.out.1.add HTX.out (by have := HLL.out; omega))
                        have hee : ((Maps.size (addAll D L) : Int) - Maps.size D) = (c : Int) := by rw [HJ.out.2]; omega
                        rw [hee] at HAD
                        have HSM := Lib.hid (show Maps.size (addAll D L) ≤ 300 + 300 * (q + 1) by rw [HJ.out.2]; omega)
                        have HSS2 := Lib.hid (short_add HMX.out.2 HC2.out.tidy HLS.out.2)
                        clear hee hful
                        go_wp2_with fail
                        refine HAD.out.mono ?_
                        rintro e w3 ⟨rfl, p', h3⟩
                        have H3 := Lib.hid h3
                        clear h3
                        go_wp2_with fail
                        go_meet
                        exact ⟨p', _, Lib.hid ⟨H3.out, HSM.out, HSS2.out⟩⟩
                · by_cases hk2 : kd = 2
                  · subst hk2
                    as_aux_lemma =>
                      have hsd : Maps.size D ≤ 300 + 300 * q := HMX.out.1
                      obtain ⟨an, cn, hnf⟩ : ∃ a c, nx = .slice a (sortedS D).length c := own_form HC2.out.now
                      obtain ⟨N, hN⟩ : ∃ N, N = sortedS D := ⟨_, rfl⟩
                      have HNN := Lib.hid hN
                      have hNl : N.length = Maps.size D := by rw [hN]; exact sortedS_length D
                      obtain ⟨nn, hnn⟩ : ∃ nn, nn = N.length := ⟨_, rfl⟩
                      rw [← hN, ← hnn] at hnf
                      subst hnf
                      have hn6 : nn ≤ 61000 := by omega
                      have HNL := Lib.hid hnn
                      have HNM := Lib.hid hNl
                      have hNsz : ∀ z ∈ N, z.size ≤ 140737488351232 := fun z hz => by
                        have := HMX.out.2 z ((mem_sortedS HC2.out.str z).1 (by rw [← hN]; exact hz))
                        omega
                      have HNT : Hid (TextsAt w2 (.slice an nn cn) N) := Lib.hid (by
                        have h1 := HC2.out.texts (by rw [← hN, hNl]; omega) (by rw [← hN]; exact hNsz)
                        rw [← hN] at h1
                        exact h1)
                      have HB4 : Hid (bk < w2.heap.size) := Lib.hid HC2.out.bkLt
                      have HHL := Lib.hid (fun W (hb : Below w.heap.size w W) y => (hasl_any (.slice al ll cl) L y W (HTX.out.below hb)).mono fun e w' h => (⟨h.1, h.2.symm⟩ : e = .returned (.bool (memB y L)) ∧ w' = W))
                      clear hN hNl hnn hNsz
                      go_wp2_with fail
                      go_loopw [19, 21, 22] (fun n' l i wr => ∃ (j c lc cc : Nat) (ac : Option Addr), l = .slice ac lc cc ∧ i = .int .i64 j ∧ n' = .int .i64 c ∧ j ≤ nn ∧ c + lc = j ∧ Hid (Below w2.heap.size w2 wr ∧ OwnT wr w2.heap.size (.slice ac lc cc) (leftOf (N.take j) L) ∧ (leftOf (N.take j) L).length = lc)) (fun _ _ i _ => (nn - RowKit.intOf i).toNat)
                      case atStart => exact ⟨0, 0, 0, 0, none, rfl, rfl, rfl, Nat.zero_le _, rfl, Lib.hid ⟨Below.refl _ _, World.ownsRow_nil _ _ _ _, rfl⟩⟩
                      case round =>
                        obtain ⟨j, c, lc, cc, ac, rfl, rfl, rfl, hj, hc, HJ⟩ := hrel
                        have z1 : wr.cell? ⟨bx, 1, none⟩ = some (.slice al ll cl) := ((HC2.out.step HJ.out.1).callAt rfl 1).trans rfl
                        clear hx0' hx1'
                        by_cases hjl : j < nn
                        · have hjz : (j : Int) < (nn : Int) := by omega
                          have hj0 : (0 : Int) ≤ (j : Int) := by omega
                          have hjN : j < N.length := by rw [← HNL.out]; exact hjl
                          obtain ⟨bn, offn, rfl, zz, hbn, hcn⟩ := TextsAt.cellAt HNT.out hjN
                          have t1 := (HJ.out.1.cell (p := ⟨bn, offn + j, none⟩) hbn).trans (hcn j hjN)
                          have hsn := leftOf_snoc L hjN
                          obtain ⟨t, ht⟩ : ∃ t, t = N.getD j ByteArray.empty := ⟨_, rfl⟩
                          rw [← ht] at t1 hsn
                          have HSN := Lib.hid hsn
                          have HHT := Lib.hid (fun W hb => HHL.out W hb t)
                          have HWR := Lib.hid ((HC2.out.step HJ.out.1).below)
                          clear hsn hcn hbn hjN ht zz
                          cases hmb : memB t L with
                          | true =>
                            rw [hmb] at HSN HHT
                            clear hmb
                            go_wp2_with fail
                            go_quiet ((first | (go_at_call 20; refine Calls.quiet_of_same (HHT.out _ (below_drewN HWR.out _)))))
                            generalize hw8 : World.drewN _ _ = w8
                            have HB8 : Hid (Below wr.heap.size wr w8) := Lib.hid (by rw [← hw8]; exact below_drewN (Below.refl _ _) _)
                            clear hw8 z1 t1
                            go_wp2_with fail
                            go_roundw
                            case rel => exact ⟨j + 1, c + 1, lc, cc, ac, rfl, by go_num, by go_num, by omega, by omega, Lib.hid ⟨HJ.out.1.trans (HB8.out.mono HJ.out.1.size), by rw [HSN.out, if_pos (by simp), List.append_nil]; exact ownT_below HJ.out.2.1 HB8.out, by rw [HSN.out, if_pos (by simp), List.append_nil]; exact HJ.out.2.2⟩⟩
                            case measure => simp [RowKit.intOf]; omega
                          | false =>
                            rw [hmb] at HSN HHT
                            clear hmb
                            go_wp2_with fail
                            go_quiet ((first | (go_at_call 20; refine Calls.quiet_of_same (HHT.out _ (below_drewN HWR.out _)))))
                            generalize hw8 : World.drewN _ _ = w8
                            have HB8 : Hid (Below wr.heap.size wr w8) := Lib.hid (by rw [← hw8]; exact below_drewN (Below.refl _ _) _)
                            have t8 : w8.cell? ⟨bn, offn + j, none⟩ = some (.string t) := (HB8.out.cell (p := ⟨bn, offn + j, none⟩) (World.block_lt_of_cell? wr _ t1)).trans t1
                            obtain ⟨v', w9, hr9, ho9, hb9⟩ := appendT (World.ownsRow.alloc (ownT_below HJ.out.2.1 HB8.out) (.cells #[.string t] 9)) t w8.heap.size 9 (heap_alloc_new _ _) (by rw [HJ.out.2.2]; omega) (by have := HB8.out.size; have := HJ.out.1.size; simp; omega) 22
                            have hlen9 : (leftOf (N.take j) L ++ [t]).length = lc + 1 := by rw [List.length_append, HJ.out.2.2]; rfl
                            obtain ⟨a9, c9, e9⟩ := own_form ho9
                            rw [hlen9] at e9
                            subst e9
                            have HR9 := Lib.hid hr9
                            have HO9 := Lib.hid ho9
                            have HB9 := Lib.hid (HJ.out.1.trans (((HB8.out.mono HJ.out.1.size).alloc (by have := HB8.out.size; have := HJ.out.1.size; omega) (.cells #[.string t] 9)).trans hb9))
                            have HL9 := Lib.hid hlen9
                            clear hw8 z1 t1 hr9 ho9 hb9 hlen9
                            go_wp2_with (at_builtin; refine wpListT_append_run rfl _ _ _ (.slice ac lc cc) (.slice (some ⟨w8.heap.size, 0, none⟩) 1 1) (.slice a9 (lc + 1) c9) rfl rfl rfl HR9.out ?_)
                            go_roundw
                            case rel => exact ⟨j + 1, c, lc + 1, c9, a9, rfl, by go_num, rfl, by omega, by omega, Lib.hid ⟨HB9.out, by rw [HSN.out, if_neg (by simp)]; exact HO9.out, by rw [HSN.out, if_neg (by simp)]; exact HL9.out⟩⟩
                            case measure => simp [RowKit.intOf]; omega
                        · have hjz : ¬ (j : Int) < (nn : Int) := by omega
                          obtain rfl : j = nn := by omega
                          have hful : N.take j = N := List.take_of_length_le (by rw [← HNL.out]; exact Nat.le_refl _)
                          rw [hful] at HJ
                          have HLD : Hid (leftOf N L = sortedS (delAll D L)) := Lib.hid (by rw [HNN.out]; exact now_del HC2.out.str HC2.out.tidy L)
                          have hlc : lc = Maps.size (delAll D L) := by rw [← HJ.out.2.2, HLD.out, sortedS_length]
                          rw [HLD.out] at HJ
                          have HRN := Lib.hid ((HC2.out.step HJ.out.1).renow HJ.out.2.1 HB4.out)
                          have HDL := Lib.hid (HRN.out.del HTX.out (by omega))
                          have hee : ((Maps.size D : Int) - Maps.size (delAll D L)) = (c : Int) := by rw [← hlc, ← HNM.out, ← HNL.out]; omega
                          rw [hee] at HDL
                          have HSM := Lib.hid (show Maps.size (delAll D L) ≤ 300 + 300 * (q + 1) by rw [← hlc]; omega)
                          have HSS2 := Lib.hid (short_del HMX.out.2 L)
                          clear hee hful hlc
                          go_wp2_with fail
                          refine HDL.out.mono ?_
                          rintro e w3 ⟨rfl, h3⟩
                          have H3 := Lib.hid h3
                          clear h3
                          go_wp2_with fail
                          go_meet
                          exact ⟨p, _, Lib.hid ⟨H3.out, HSM.out, HSS2.out⟩⟩
                  · have hkb1 : (kd == 1) = false := by simp [hk1]
                    have hkb2 : (kd == 2) = false := by simp [hk2]
                    go_wp2_with fail
                    go_meet
                    exact ⟨p, D, Lib.hid ⟨HC2.out, by have := HMX.out.1; omega, HMX.out.2⟩⟩
              case rest =>
                obtain ⟨p', D', HS3⟩ := hcut
                clear HC2 HMX hx0' hx1'
                as_aux_lemma =>
                  obtain ⟨an, nn, cn, hnf, hnn⟩ : ∃ a m c, u14 = .slice a m c ∧ m = Maps.size D' := by
                    obtain ⟨a, c, e⟩ := own_form HS3.out.1.now
                    exact ⟨a, _, c, e, sortedS_length D'⟩
                  subst hnf
                  have hsz9 : ∀ z ∈ sortedS D', z.size ≤ 140737488351232 := fun z hz => by
                    have := HS3.out.2.2 z ((mem_sortedS HS3.out.1.str z).1 hz)
                    omega
                  have hsl9 : (sortedS D').length ≤ 1000000 := by rw [sortedS_length]; have := HS3.out.2.1; omega
                  have HNT := Lib.hid (fun W (hb : Below wc.heap.size wc W) => (HS3.out.1.step hb).texts hsl9 hsz9)
                  have HQN := Lib.hid hnn
                  clear hsz9 hsl9 hnn
                  go_wp2_with fail
                  go_loopw [23] (fun i wr => ∃ j : Nat, i = .int .i64 j ∧ j ≤ ll ∧ Hid (Below wc.heap.size wc wr)) (fun i _ => (ll - RowKit.intOf i).toNat)
                  case atStart => exact ⟨0, rfl, Nat.zero_le _, Lib.hid (Below.refl _ _)⟩
                  case round =>
                    obtain ⟨j, rfl, hj, HB⟩ := hrel
                    have z1 : wr.cell? ⟨bx, 1, none⟩ = some (.slice al ll cl) := ((HS3.out.1.step HB.out).callAt rfl 1).trans rfl
                    by_cases hjl : j < ll
                    · have hjz : (j : Int) < (ll : Int) := by omega
                      have hj0 : (0 : Int) ≤ (j : Int) := by omega
                      obtain ⟨bl, offl, rfl, hbl, t0, hts⟩ := HCL.out j hjl
                      have t1 := ((HS3.out.1.step HB.out).below.cell (p := ⟨bl, offl + j, none⟩) hbl).trans t0
                      obtain ⟨t, ht⟩ : ∃ t, t = L.getD j ByteArray.empty := ⟨_, rfl⟩
                      rw [← ht] at t1 t0 hts
                      have HHS := Lib.hid (fun W (hb : Below wr.heap.size wr W) => ((HS3.out.1.step HB.out).step hb).has t (by omega))
                      have HHN := Lib.hid (fun W (hb : Below wr.heap.size wr W) => hasl_any (.slice an nn cn) (sortedS D') t W (HNT.out W (HB.out.trans (hb.mono HB.out.size))))
                      rw [memB_sorted HS3.out.1.str] at HHN
                      have HT0 := Lib.hid (fun W (hb : Below wr.heap.size wr W) => ((HS3.out.1.step HB.out).step hb).below.cell (p := ⟨bl, offl + j, none⟩) hbl |>.trans t0)
                      have HZ1 := Lib.hid (fun W (hb : Below wr.heap.size wr W) => ((((HS3.out.1.step HB.out).step hb).callAt rfl 1).trans rfl : W.cell? ⟨bx, 1, none⟩ = some (.slice (some ⟨bl, offl, none⟩) ll cl)))
                      have HOC := Lib.hid (fun W (hb : Below wr.heap.size wr W) (h : (owned && !zero) = true) => by
                        obtain ⟨_, _, _, _, _, _, _, h5⟩ := ((HS3.out.1.step HB.out).step hb).oc g (by rw [HOWN.out, if_pos h])
                        exact (h5 : W.cell? ⟨g, 0, none⟩ = some (.pointer (some ⟨sb', 0, none⟩))))
                      clear ht t0 hts hbl
                      obtain ⟨hb0, hhb⟩ : ∃ b, b = hasS D' t := ⟨_, rfl⟩
                      rw [← hhb] at HHS HHN
                      clear hhb
                      go_upto_region 49 with fail
                      go_cut [202] (fun c wx => c = .bool false ∧ Hid (Below wr.heap.size wr wx))
                      case first =>
                        have hB0 : Below wr.heap.size wr wr := Below.refl _ _
                        have hBd : Below wr.heap.size wr wr.drew := Below.drew (Below.refl _ _)
                        have hbb : (hb0 != hb0) = false := by cases hb0 <;> rfl
                        cases owned with
                        | false =>
                          as_aux_lemma =>
                            refine wp_region_held_drew (S := fun w' => w'.cell? ⟨bx, 1, none⟩ = some (.slice (some ⟨bl, offl, none⟩) ll cl) ∧ w'.cell? ⟨bl, offl + j, none⟩ = some (.string t)) (by kernel_rfl) ⟨z1, t1⟩ (fun hHeld => ?_)
                            refine wpAnyH_take (i := 0) (oi := { dst := some 163, op := Op.move (Operand.tmp 12), type := 53, pos := "law.go:110", after := #[], guard := none }) (v := ?_) rfl (by kernel_rfl) (by kernel_rfl) (by kernel_rfl) (fun _ _ _ h => h) (Or.inl ⟨by rfl, ?_⟩) (by assumption) ?_
                            rotate_left
                            · intro w hSw; (try dsimp only at hSw); go_simp; (try with_reducible rfl)
                            try simp only [Act.put, List.setIfInBounds_toArray, List.set_cons_zero, List.set_cons_succ]
                            refine wpAnyH_take (i := 1) (oi := { dst := some 164, op := Op.fieldAddr 62 (Operand.tmp 18) 1, type := 0, pos := "law.go:110", after := #[], guard := none }) (v := ?_) rfl (by kernel_rfl) (by kernel_rfl) (by kernel_rfl) (fun _ _ _ h => h) (Or.inl ⟨by rfl, ?_⟩) (by assumption) ?_
                            rotate_left
                            · intro w hSw; (try dsimp only at hSw); go_simp; (try with_reducible rfl)
                            try simp only [Act.put, List.setIfInBounds_toArray, List.set_cons_zero, List.set_cons_succ]
                            refine wpAnyH_take (i := 2) (oi := { dst := some 165, op := Op.load 22 (Operand.tmp 164), type := 22, pos := "law.go:110", after := #[{ on := 1, ground := Ground.data }], guard := none }) (v := ?_) rfl (by kernel_rfl) (by kernel_rfl) (by kernel_rfl) (fun _ _ _ h => h) (Or.inl ⟨by rfl, ?_⟩) (by assumption) ?_
                            rotate_left
                            · intro w hSw; (try dsimp only at hSw); go_simp; (try with_reducible rfl)
                            try simp only [Act.put, List.setIfInBounds_toArray, List.set_cons_zero, List.set_cons_succ]
                            refine wpAnyH_take (i := 3) (oi := { dst := some 166, op := Op.move (Operand.tmp 23), type := 3, pos := "law.go:110", after := #[], guard := none }) (v := ?_) rfl (by kernel_rfl) (by kernel_rfl) (by kernel_rfl) (fun _ _ _ h => h) (Or.inl ⟨by rfl, ?_⟩) (by assumption) ?_
                            rotate_left
                            · intro w hSw; (try dsimp only at hSw); go_simp; (try with_reducible rfl)
                            try simp only [Act.put, List.setIfInBounds_toArray, List.set_cons_zero, List.set_cons_succ]
                            refine wpAnyH_take (i := 4) (oi := { dst := some 167, op := Op.indexAddr 22 (Operand.tmp 165) (Operand.tmp 166), type := 0, pos := "law.go:110", after := #[{ on := 2, ground := Ground.data }, { on := 3, ground := Ground.data }], guard := none }) (v := ?_) rfl (by kernel_rfl) (by kernel_rfl) (by kernel_rfl) (fun _ _ _ h => h) (Or.inl ⟨by rfl, ?_⟩) (by assumption) ?_
                            rotate_left
                            · intro w hSw; (try dsimp only at hSw); go_simp; (try with_reducible rfl)
                            try simp only [Act.put, List.setIfInBounds_toArray, List.set_cons_zero, List.set_cons_succ]
                            refine wpAnyH_take (i := 5) (oi := { dst := some 168, op := Op.load 9 (Operand.tmp 167), type := 9, pos := "law.go:110", after := #[{ on := 4, ground := Ground.data }], guard := none }) (v := ?_) rfl (by kernel_rfl) (by kernel_rfl) (by kernel_rfl) (fun _ _ _ h => h) (Or.inl ⟨by rfl, ?_⟩) (by assumption) ?_
                            rotate_left
                            · intro w hSw; (try dsimp only at hSw); go_simp; (try with_reducible rfl)
                            try simp only [Act.put, List.setIfInBounds_toArray, List.set_cons_zero, List.set_cons_succ]
                            refine wpAnyH_take (i := 7) (oi := { dst := some 170, op := Op.move (Operand.tmp 14), type := 22, pos := "law.go:110", after := #[], guard := none }) (v := ?_) rfl (by kernel_rfl) (by kernel_rfl) (by kernel_rfl) (fun _ _ _ h => h) (Or.inl ⟨by rfl, ?_⟩) (by assumption) ?_
                            rotate_left
                            · intro w hSw; (try dsimp only at hSw); go_simp; (try with_reducible rfl)
                            try simp only [Act.put, List.setIfInBounds_toArray, List.set_cons_zero, List.set_cons_succ]
                            refine wpAnyH_take (i := 8) (oi := { dst := some 171, op := Op.fieldAddr 62 (Operand.tmp 18) 1, type := 0, pos := "law.go:110", after := #[], guard := none }) (v := ?_) rfl (by kernel_rfl) (by kernel_rfl) (by kernel_rfl) (fun _ _ _ h => h) (Or.inl ⟨by rfl, ?_⟩) (by assumption) ?_
                            rotate_left
                            · intro w hSw; (try dsimp only at hSw); go_simp; (try with_reducible rfl)
                            try simp only [Act.put, List.setIfInBounds_toArray, List.set_cons_zero, List.set_cons_succ]
                            refine wpAnyH_take (i := 9) (oi := { dst := some 172, op := Op.load 22 (Operand.tmp 171), type := 22, pos := "law.go:110", after := #[{ on := 8, ground := Ground.data }], guard := none }) (v := ?_) rfl (by kernel_rfl) (by kernel_rfl) (by kernel_rfl) (fun _ _ _ h => h) (Or.inl ⟨by rfl, ?_⟩) (by assumption) ?_
                            rotate_left
                            · intro w hSw; (try dsimp only at hSw); go_simp; (try with_reducible rfl)
                            try simp only [Act.put, List.setIfInBounds_toArray, List.set_cons_zero, List.set_cons_succ]
                            refine wpAnyH_take (i := 10) (oi := { dst := some 173, op := Op.move (Operand.tmp 23), type := 3, pos := "law.go:110", after := #[], guard := none }) (v := ?_) rfl (by kernel_rfl) (by kernel_rfl) (by kernel_rfl) (fun _ _ _ h => h) (Or.inl ⟨by rfl, ?_⟩) (by assumption) ?_
                            rotate_left
                            · intro w hSw; (try dsimp only at hSw); go_simp; (try with_reducible rfl)
                            try simp only [Act.put, List.setIfInBounds_toArray, List.set_cons_zero, List.set_cons_succ]
                            refine wpAnyH_take (i := 11) (oi := { dst := some 174, op := Op.indexAddr 22 (Operand.tmp 172) (Operand.tmp 173), type := 0, pos := "law.go:110", after := #[{ on := 9, ground := Ground.data }, { on := 10, ground := Ground.data }], guard := none }) (v := ?_) rfl (by kernel_rfl) (by kernel_rfl) (by kernel_rfl) (fun _ _ _ h => h) (Or.inl ⟨by rfl, ?_⟩) (by assumption) ?_
                            rotate_left
                            · intro w hSw; (try dsimp only at hSw); go_simp; (try with_reducible rfl)
                            try simp only [Act.put, List.setIfInBounds_toArray, List.set_cons_zero, List.set_cons_succ]
                            refine wpAnyH_take (i := 12) (oi := { dst := some 175, op := Op.load 9 (Operand.tmp 174), type := 9, pos := "law.go:110", after := #[{ on := 11, ground := Ground.data }], guard := none }) (v := ?_) rfl (by kernel_rfl) (by kernel_rfl) (by kernel_rfl) (fun _ _ _ h => h) (Or.inl ⟨by rfl, ?_⟩) (by assumption) ?_
                            rotate_left
                            · intro w hSw; (try dsimp only at hSw); go_simp; (try with_reducible rfl)
                            try simp only [Act.put, List.setIfInBounds_toArray, List.set_cons_zero, List.set_cons_succ]
                            refine wpAnyH_ready (rs := [6]) (by kernel_rfl) (by simp) ?_
                            refine AllReadyH.cons (o := { dst := some 169, op := Op.call { callee := Callee.value (Operand.func 23), args := #[Operand.tmp 163, Operand.tmp 168], argTypes := #[53, 9] }, type := 4, pos := "law.go:110", after := #[{ on := 0, ground := Ground.data }, { on := 5, ground := Ground.data }], guard := none }) rfl (fun K hK => ?_) AllReadyH.nil
                            go_simp
                            refine (HHS.out _ hBd).mono ?_
                            rintro e wA ⟨rfl, hbA⟩
                            have hXA : Below wr.heap.size wr wA := hBd.trans (hbA.mono hBd.size)
                            clear hHeld
                            go_wp2_with fail
                            refine hK.out _ _ ⟨HZ1.out _ hXA, HT0.out _ hXA⟩ (fun hHeld => ?_)
                            clear hK K
                            try simp only [Act.put, List.setIfInBounds_toArray, List.set_cons_zero, List.set_cons_succ]
                            refine wpAnyH_ready (rs := [13]) (by kernel_rfl) (by simp) ?_
                            refine AllReadyH.cons (o := { dst := some 176, op := Op.call { callee := Callee.value (Operand.func 20), args := #[Operand.tmp 170, Operand.tmp 175], argTypes := #[22, 9] }, type := 4, pos := "law.go:110", after := #[{ on := 7, ground := Ground.data }, { on := 12, ground := Ground.data }, { on := 6, ground := Ground.chain }], guard := none }) rfl (fun K hK => ?_) AllReadyH.nil
                            go_simp
                            refine (HHN.out _ hXA).mono ?_
                            rintro e wB ⟨rfl, rfl⟩
                            go_wp2_with fail
                            refine hK.out _ _ hHeld (fun hHeld => ?_)
                            clear hK K
                            try simp only [Act.put, List.setIfInBounds_toArray, List.set_cons_zero, List.set_cons_succ]
                            refine wpAnyH_take (i := 14) (oi := { dst := some 177, op := Op.binOp BinOp.neq 4 (Operand.tmp 169) (Operand.tmp 176) 4, type := 4, pos := "law.go:110", after := #[{ on := 6, ground := Ground.data }, { on := 13, ground := Ground.data }], guard := none }) (v := ?_) rfl (by kernel_rfl) (by kernel_rfl) (by kernel_rfl) (fun _ _ _ h => h) (Or.inl ⟨by rfl, ?_⟩) (by assumption) ?_
                            rotate_left
                            · intro w hSw; (try dsimp only at hSw); go_simp; (try with_reducible rfl)
                            try simp only [Act.put, List.setIfInBounds_toArray, List.set_cons_zero, List.set_cons_succ]
                            refine wpAnyH_take (i := 15) (oi := { dst := some 178, op := Op.move (Operand.tmp 177), type := 4, pos := "law.go:110", after := #[{ on := 14, ground := Ground.data }, { on := 13, ground := Ground.chain }], guard := none }) (v := ?_) rfl (by kernel_rfl) (by kernel_rfl) (by kernel_rfl) (fun _ _ _ h => h) (Or.inl ⟨by rfl, ?_⟩) (by assumption) ?_
                            rotate_left
                            · intro w hSw; (try dsimp only at hSw); go_simp; (try with_reducible rfl)
                            try simp only [Act.put, List.setIfInBounds_toArray, List.set_cons_zero, List.set_cons_succ]
                            refine wpAnyH_take (i := 16) (oi := { dst := some 179, op := Op.move (Operand.tmp 2), type := 4, pos := "law.go:110", after := #[{ on := 15, ground := Ground.guard }], guard := some (15, false) }) (v := ?_) rfl (by kernel_rfl) (by kernel_rfl) (by kernel_rfl) (fun _ _ _ h => h) (Or.inl ⟨by rfl, ?_⟩) (by assumption) ?_
                            rotate_left
                            · intro w hSw; (try dsimp only at hSw); go_simp; (try with_reducible rfl)
                            try simp only [Act.put, List.setIfInBounds_toArray, List.set_cons_zero, List.set_cons_succ]
                            refine wpAnyH_take (i := 17) (oi := { dst := some 180, op := Op.move (Operand.tmp 179), type := 4, pos := "law.go:110", after := #[{ on := 16, ground := Ground.data }, { on := 15, ground := Ground.chain }, { on := 15, ground := Ground.guard }], guard := some (15, false) }) (v := ?_) rfl (by kernel_rfl) (by kernel_rfl) (by kernel_rfl) (fun _ _ _ h => h) (Or.inl ⟨by rfl, ?_⟩) (by assumption) ?_
                            rotate_left
                            · intro w hSw; (try dsimp only at hSw); go_simp; (try with_reducible rfl)
                            try simp only [Act.put, List.setIfInBounds_toArray, List.set_cons_zero, List.set_cons_succ]
                            refine wpAnyH_take (i := 18) (oi := { dst := some 181, op := Op.move (Operand.tmp 3), type := 4, pos := "law.go:110", after := #[{ on := 17, ground := Ground.guard }], guard := some (17, true) }) (v := undef) rfl (by kernel_rfl) (by kernel_rfl) (by kernel_rfl) (fun _ _ _ h => h) (Or.inr ⟨by rfl, rfl⟩) (by assumption) ?_
                            try simp only [Act.put, List.setIfInBounds_toArray, List.set_cons_zero, List.set_cons_succ]
                            refine wpAnyH_take (i := 19) (oi := { dst := some 182, op := Op.unOp UnOp.not 4 (Operand.tmp 181), type := 4, pos := "law.go:110", after := #[{ on := 18, ground := Ground.data }, { on := 17, ground := Ground.guard }], guard := some (17, true) }) (v := undef) rfl (by kernel_rfl) (by kernel_rfl) (by kernel_rfl) (fun _ _ _ h => h) (Or.inr ⟨by rfl, rfl⟩) (by assumption) ?_
                            try simp only [Act.put, List.setIfInBounds_toArray, List.set_cons_zero, List.set_cons_succ]
                            refine wpAnyH_take (i := 20) (oi := { dst := some 183, op := Op.pick (Operand.tmp 180) (Operand.tmp 182) (Operand.const (Value.bool false)), type := 4, pos := "law.go:110", after := #[{ on := 17, ground := Ground.data }, { on := 19, ground := Ground.data }, { on := 15, ground := Ground.guard }], guard := some (15, false) }) (v := ?_) rfl (by kernel_rfl) (by kernel_rfl) (by kernel_rfl) (fun _ _ _ h => h) (Or.inl ⟨by rfl, ?_⟩) (by assumption) ?_
                            rotate_left
                            · intro w hSw; (try dsimp only at hSw); go_simp; (try with_reducible rfl)
                            try simp only [Act.put, List.setIfInBounds_toArray, List.set_cons_zero, List.set_cons_succ]
                            refine wpAnyH_take (i := 21) (oi := { dst := some 184, op := Op.move (Operand.tmp 183), type := 4, pos := "law.go:110", after := #[{ on := 20, ground := Ground.data }, { on := 17, ground := Ground.chain }, { on := 15, ground := Ground.guard }], guard := some (15, false) }) (v := ?_) rfl (by kernel_rfl) (by kernel_rfl) (by kernel_rfl) (fun _ _ _ h => h) (Or.inl ⟨by rfl, ?_⟩) (by assumption) ?_
                            rotate_left
                            · intro w hSw; (try dsimp only at hSw); go_simp; (try with_reducible rfl)
                            try simp only [Act.put, List.setIfInBounds_toArray, List.set_cons_zero, List.set_cons_succ]
                            refine wpAnyH_take (i := 22) (oi := { dst := some 185, op := Op.fieldAddr 56 (Operand.tmp 13) 0, type := 0, pos := "law.go:110", after := #[{ on := 21, ground := Ground.guard }], guard := some (21, true) }) (v := undef) rfl (by kernel_rfl) (by kernel_rfl) (by kernel_rfl) (fun _ _ _ h => h) (Or.inr ⟨by rfl, rfl⟩) (by assumption) ?_
                            try simp only [Act.put, List.setIfInBounds_toArray, List.set_cons_zero, List.set_cons_succ]
                            refine wpAnyH_take (i := 23) (oi := { dst := some 186, op := Op.load 53 (Operand.tmp 185), type := 53, pos := "law.go:110", after := #[{ on := 22, ground := Ground.data }, { on := 21, ground := Ground.guard }], guard := some (21, true) }) (v := undef) rfl (by kernel_rfl) (by kernel_rfl) (by kernel_rfl) (fun _ _ _ h => h) (Or.inr ⟨by rfl, rfl⟩) (by assumption) ?_
                            try simp only [Act.put, List.setIfInBounds_toArray, List.set_cons_zero, List.set_cons_succ]
                            refine wpAnyH_take (i := 24) (oi := { dst := some 187, op := Op.fieldAddr 62 (Operand.tmp 18) 1, type := 0, pos := "law.go:110", after := #[{ on := 21, ground := Ground.guard }], guard := some (21, true) }) (v := undef) rfl (by kernel_rfl) (by kernel_rfl) (by kernel_rfl) (fun _ _ _ h => h) (Or.inr ⟨by rfl, rfl⟩) (by assumption) ?_
                            try simp only [Act.put, List.setIfInBounds_toArray, List.set_cons_zero, List.set_cons_succ]
                            refine wpAnyH_take (i := 25) (oi := { dst := some 188, op := Op.load 22 (Operand.tmp 187), type := 22, pos := "law.go:110", after := #[{ on := 24, ground := Ground.data }, { on := 21, ground := Ground.guard }], guard := some (21, true) }) (v := undef) rfl (by kernel_rfl) (by kernel_rfl) (by kernel_rfl) (fun _ _ _ h => h) (Or.inr ⟨by rfl, rfl⟩) (by assumption) ?_
                            try simp only [Act.put, List.setIfInBounds_toArray, List.set_cons_zero, List.set_cons_succ]
                            refine wpAnyH_take (i := 26) (oi := { dst := some 189, op := Op.move (Operand.tmp 23), type := 3, pos := "law.go:110", after := #[{ on := 21, ground := Ground.guard }], guard := some (21, true) }) (v := undef) rfl (by kernel_rfl) (by kernel_rfl) (by kernel_rfl) (fun _ _ _ h => h) (Or.inr ⟨by rfl, rfl⟩) (by assumption) ?_
                            try simp only [Act.put, List.setIfInBounds_toArray, List.set_cons_zero, List.set_cons_succ]
                            refine wpAnyH_take (i := 27) (oi := { dst := some 190, op := Op.indexAddr 22 (Operand.tmp 188) (Operand.tmp 189), type := 0, pos := "law.go:110", after := #[{ on := 25, ground := Ground.data }, { on := 26, ground := Ground.data }, { on := 21, ground := Ground.guard }], guard := some (21, true) }) (v := undef) rfl (by kernel_rfl) (by kernel_rfl) (by kernel_rfl) (fun _ _ _ h => h) (Or.inr ⟨by rfl, rfl⟩) (by assumption) ?_
                            try simp only [Act.put, List.setIfInBounds_toArray, List.set_cons_zero, List.set_cons_succ]
                            refine wpAnyH_take (i := 28) (oi := { dst := some 191, op := Op.load 9 (Operand.tmp 190), type := 9, pos := "law.go:110", after := #[{ on := 27, ground := Ground.data }, { on := 21, ground := Ground.guard }], guard := some (21, true) }) (v := undef) rfl (by kernel_rfl) (by kernel_rfl) (by kernel_rfl) (fun _ _ _ h => h) (Or.inr ⟨by rfl, rfl⟩) (by assumption) ?_
                            try simp only [Act.put, List.setIfInBounds_toArray, List.set_cons_zero, List.set_cons_succ]
                            refine wpAnyH_take (i := 29) (oi := { dst := some 192, op := Op.call { callee := Callee.value (Operand.func 23), args := #[Operand.tmp 186, Operand.tmp 191], argTypes := #[53, 9] }, type := 4, pos := "law.go:110", after := #[{ on := 23, ground := Ground.data }, { on := 28, ground := Ground.data }, { on := 21, ground := Ground.chain }, { on := 21, ground := Ground.guard }], guard := some (21, true) }) (v := undef) rfl (by kernel_rfl) (by kernel_rfl) (by kernel_rfl) (fun _ _ _ h => h) (Or.inr ⟨by rfl, rfl⟩) (by assumption) ?_
                            try simp only [Act.put, List.setIfInBounds_toArray, List.set_cons_zero, List.set_cons_succ]
                            refine wpAnyH_take (i := 30) (oi := { dst := some 193, op := Op.move (Operand.tmp 12), type := 53, pos := "law.go:110", after := #[{ on := 21, ground := Ground.guard }], guard := some (21, true) }) (v := undef) rfl (by kernel_rfl) (by kernel_rfl) (by kernel_rfl) (fun _ _ _ h => h) (Or.inr ⟨by rfl, rfl⟩) (by assumption) ?_
                            try simp only [Act.put, List.setIfInBounds_toArray, List.set_cons_zero, List.set_cons_succ]
                            refine wpAnyH_take (i := 31) (oi := { dst := some 194, op := Op.fieldAddr 62 (Operand.tmp 18) 1, type := 0, pos := "law.go:110", after := #[{ on := 21, ground := Ground.guard }], guard := some (21, true) }) (v := undef) rfl (by kernel_rfl) (by kernel_rfl) (by kernel_rfl) (fun _ _ _ h => h) (Or.inr ⟨by rfl, rfl⟩) (by assumption) ?_
                            try simp only [Act.put, List.setIfInBounds_toArray, List.set_cons_zero, List.set_cons_succ]
                            refine wpAnyH_take (i := 32) (oi := { dst := some 195, op := Op.load 22 (Operand.tmp 194), type := 22, pos := "law.go:110", after := #[{ on := 31, ground := Ground.data }, { on := 21, ground := Ground.guard }], guard := some (21, true) }) (v := undef) rfl (by kernel_rfl) (by kernel_rfl) (by kernel_rfl) (fun _ _ _ h => h) (Or.inr ⟨by rfl, rfl⟩) (by assumption) ?_
                            try simp only [Act.put, List.setIfInBounds_toArray, List.set_cons_zero, List.set_cons_succ]
                            refine wpAnyH_take (i := 33) (oi := { dst := some 196, op := Op.move (Operand.tmp 23), type := 3, pos := "law.go:110", after := #[{ on := 21, ground := Ground.guard }], guard := some (21, true) }) (v := undef) rfl (by kernel_rfl) (by kernel_rfl) (by kernel_rfl) (fun _ _ _ h => h) (Or.inr ⟨by rfl, rfl⟩) (by assumption) ?_
                            try simp only [Act.put, List.setIfInBounds_toArray, List.set_cons_zero, List.set_cons_succ]
                            refine wpAnyH_take (i := 34) (oi := { dst := some 197, op := Op.indexAddr 22 (Operand.tmp 195) (Operand.tmp 196), type := 0, pos := "law.go:110", after := #[{ on := 32, ground := Ground.data }, { on := 33, ground := Ground.data }, { on := 21, ground := Ground.guard }], guard := some (21, true) }) (v := undef) rfl (by kernel_rfl) (by kernel_rfl) (by kernel_rfl) (fun _ _ _ h => h) (Or.inr ⟨by rfl, rfl⟩) (by assumption) ?_
                            try simp only [Act.put, List.setIfInBounds_toArray, List.set_cons_zero, List.set_cons_succ]
                            refine wpAnyH_take (i := 35) (oi := { dst := some 198, op := Op.load 9 (Operand.tmp 197), type := 9, pos := "law.go:110", after := #[{ on := 34, ground := Ground.data }, { on := 21, ground := Ground.guard }], guard := some (21, true) }) (v := undef) rfl (by kernel_rfl) (by kernel_rfl) (by kernel_rfl) (fun _ _ _ h => h) (Or.inr ⟨by rfl, rfl⟩) (by assumption) ?_
                            try simp only [Act.put, List.setIfInBounds_toArray, List.set_cons_zero, List.set_cons_succ]
                            refine wpAnyH_take (i := 36) (oi := { dst := some 199, op := Op.call { callee := Callee.value (Operand.func 23), args := #[Operand.tmp 193, Operand.tmp 198], argTypes := #[53, 9] }, type := 4, pos := "law.go:110", after := #[{ on := 30, ground := Ground.data }, { on := 35, ground := Ground.data }, { on := 29, ground := Ground.chain }, { on := 21, ground := Ground.guard }], guard := some (21, true) }) (v := undef) rfl (by kernel_rfl) (by kernel_rfl) (by kernel_rfl) (fun _ _ _ h => h) (Or.inr ⟨by rfl, rfl⟩) (by assumption) ?_
                            try simp only [Act.put, List.setIfInBounds_toArray, List.set_cons_zero, List.set_cons_succ]
                            refine wpAnyH_take (i := 37) (oi := { dst := some 200, op := Op.binOp BinOp.neq 4 (Operand.tmp 192) (Operand.tmp 199) 4, type := 4, pos := "law.go:110", after := #[{ on := 29, ground := Ground.data }, { on := 36, ground := Ground.data }, { on := 21, ground := Ground.guard }], guard := some (21, true) }) (v := undef) rfl (by kernel_rfl) (by kernel_rfl) (by kernel_rfl) (fun _ _ _ h => h) (Or.inr ⟨by rfl, rfl⟩) (by assumption) ?_
                            try simp only [Act.put, List.setIfInBounds_toArray, List.set_cons_zero, List.set_cons_succ]
                            refine wpAnyH_take (i := 38) (oi := { dst := some 201, op := Op.pick (Operand.tmp 184) (Operand.tmp 200) (Operand.const (Value.bool false)), type := 4, pos := "law.go:110", after := #[{ on := 21, ground := Ground.data }, { on := 37, ground := Ground.data }, { on := 15, ground := Ground.guard }], guard := some (15, false) }) (v := ?_) rfl (by kernel_rfl) (by kernel_rfl) (by kernel_rfl) (fun _ _ _ h => h) (Or.inl ⟨by rfl, ?_⟩) (by assumption) ?_
                            rotate_left
                            · intro w hSw; (try dsimp only at hSw); go_simp; (try with_reducible rfl)
                            try simp only [Act.put, List.setIfInBounds_toArray, List.set_cons_zero, List.set_cons_succ]
                            refine wpAnyH_take (i := 39) (oi := { dst := some 202, op := Op.pick (Operand.tmp 178) (Operand.const (Value.bool true)) (Operand.tmp 201), type := 4, pos := "law.go:110", after := #[{ on := 15, ground := Ground.data }, { on := 38, ground := Ground.data }], guard := none }) (v := ?_) rfl (by kernel_rfl) (by kernel_rfl) (by kernel_rfl) (fun _ _ _ h => h) (Or.inl ⟨by rfl, ?_⟩) (by assumption) ?_
                            rotate_left
                            · intro w hSw; (try dsimp only at hSw); go_simp; (try with_reducible rfl)
                            try simp only [Act.put, List.setIfInBounds_toArray, List.set_cons_zero, List.set_cons_succ]
                            refine wpAnyH_done (by kernel_rfl) ?_ _
                            go_wp2_with fail
                            go_meet
                            exact ⟨rfl, Lib.hid hXA⟩
                        | true =>
                          cases zero with
                          | true =>
                            as_aux_lemma =>
                              refine wp_region_held_drew (S := fun w' => w'.cell? ⟨bx, 1, none⟩ = some (.slice (some ⟨bl, offl, none⟩) ll cl) ∧ w'.cell? ⟨bl, offl + j, none⟩ = some (.string t)) (by kernel_rfl) ⟨z1, t1⟩ (fun hHeld => ?_)
                              refine wpAnyH_take (i := 0) (oi := { dst := some 163, op := Op.move (Operand.tmp 12), type := 53, pos := "law.go:110", after := #[], guard := none }) (v := ?_) rfl (by kernel_rfl) (by kernel_rfl) (by kernel_rfl) (fun _ _ _ h => h) (Or.inl ⟨by rfl, ?_⟩) (by assumption) ?_
                              rotate_left
                              · intro w hSw; (try dsimp only at hSw); go_simp; (try with_reducible rfl)
                              try simp only [Act.put, List.setIfInBounds_toArray, List.set_cons_zero, List.set_cons_succ]
                              refine wpAnyH_take (i := 1) (oi := { dst := some 164, op := Op.fieldAddr 62 (Operand.tmp 18) 1, type := 0, pos := "law.go:110", after := #[], guard := none }) (v := ?_) rfl (by kernel_rfl) (by kernel_rfl) (by kernel_rfl) (fun _ _ _ h => h) (Or.inl ⟨by rfl, ?_⟩) (by assumption) ?_
                              rotate_left
                              · intro w hSw; (try dsimp only at hSw); go_simp; (try with_reducible rfl)
                              try simp only [Act.put, List.setIfInBounds_toArray, List.set_cons_zero, List.set_cons_succ]
                              refine wpAnyH_take (i := 2) (oi := { dst := some 165, op := Op.load 22 (Operand.tmp 164), type := 22, pos := "law.go:110", after := #[{ on := 1, ground := Ground.data }], guard := none }) (v := ?_) rfl (by kernel_rfl) (by kernel_rfl) (by kernel_rfl) (fun _ _ _ h => h) (Or.inl ⟨by rfl, ?_⟩) (by assumption) ?_
                              rotate_left
                              · intro w hSw; (try dsimp only at hSw); go_simp; (try with_reducible rfl)
                              try simp only [Act.put, List.setIfInBounds_toArray, List.set_cons_zero, List.set_cons_succ]
                              refine wpAnyH_take (i := 3) (oi := { dst := some 166, op := Op.move (Operand.tmp 23), type := 3, pos := "law.go:110", after := #[], guard := none }) (v := ?_) rfl (by kernel_rfl) (by kernel_rfl) (by kernel_rfl) (fun _ _ _ h => h) (Or.inl ⟨by rfl, ?_⟩) (by assumption) ?_
                              rotate_left
                              · intro w hSw; (try dsimp only at hSw); go_simp; (try with_reducible rfl)
                              try simp only [Act.put, List.setIfInBounds_toArray, List.set_cons_zero, List.set_cons_succ]
                              refine wpAnyH_take (i := 4) (oi := { dst := some 167, op := Op.indexAddr 22 (Operand.tmp 165) (Operand.tmp 166), type := 0, pos := "law.go:110", after := #[{ on := 2, ground := Ground.data }, { on := 3, ground := Ground.data }], guard := none }) (v := ?_) rfl (by kernel_rfl) (by kernel_rfl) (by kernel_rfl) (fun _ _ _ h => h) (Or.inl ⟨by rfl, ?_⟩) (by assumption) ?_
                              rotate_left
                              · intro w hSw; (try dsimp only at hSw); go_simp; (try with_reducible rfl)
                              try simp only [Act.put, List.setIfInBounds_toArray, List.set_cons_zero, List.set_cons_succ]
                              refine wpAnyH_take (i := 5) (oi := { dst := some 168, op := Op.load 9 (Operand.tmp 167), type := 9, pos := "law.go:110", after := #[{ on := 4, ground := Ground.data }], guard := none }) (v := ?_) rfl (by kernel_rfl) (by kernel_rfl) (by kernel_rfl) (fun _ _ _ h => h) (Or.inl ⟨by rfl, ?_⟩) (by assumption) ?_
                              rotate_left
                              · intro w hSw; (try dsimp only at hSw); go_simp; (try with_reducible rfl)
                              try simp only [Act.put, List.setIfInBounds_toArray, List.set_cons_zero, List.set_cons_succ]
                              refine wpAnyH_take (i := 7) (oi := { dst := some 170, op := Op.move (Operand.tmp 14), type := 22, pos := "law.go:110", after := #[], guard := none }) (v := ?_) rfl (by kernel_rfl) (by kernel_rfl) (by kernel_rfl) (fun _ _ _ h => h) (Or.inl ⟨by rfl, ?_⟩) (by assumption) ?_
                              rotate_left
                              · intro w hSw; (try dsimp only at hSw); go_simp; (try with_reducible rfl)
                              try simp only [Act.put, List.setIfInBounds_toArray, List.set_cons_zero, List.set_cons_succ]
                              refine wpAnyH_take (i := 8) (oi := { dst := some 171, op := Op.fieldAddr 62 (Operand.tmp 18) 1, type := 0, pos := "law.go:110", after := #[], guard := none }) (v := ?_) rfl (by kernel_rfl) (by kernel_rfl) (by kernel_rfl) (fun _ _ _ h => h) (Or.inl ⟨by rfl, ?_⟩) (by assumption) ?_
                              rotate_left
                              · intro w hSw; (try dsimp only at hSw); go_simp; (try with_reducible rfl)
                              try simp only [Act.put, List.setIfInBounds_toArray, List.set_cons_zero, List.set_cons_succ]
                              refine wpAnyH_take (i := 9) (oi := { dst := some 172, op := Op.load 22 (Operand.tmp 171), type := 22, pos := "law.go:110", after := #[{ on := 8, ground := Ground.data }], guard := none }) (v := ?_) rfl (by kernel_rfl) (by kernel_rfl) (by kernel_rfl) (fun _ _ _ h => h) (Or.inl ⟨by rfl, ?_⟩) (by assumption) ?_
                              rotate_left
                              · intro w hSw; (try dsimp only at hSw); go_simp; (try with_reducible rfl)
                              try simp only [Act.put, List.setIfInBounds_toArray, List.set_cons_zero, List.set_cons_succ]
                              refine wpAnyH_take (i := 10) (oi := { dst := some 173, op := Op.move (Operand.tmp 23), type := 3, pos := "law.go:110", after := #[], guard := none }) (v := ?_) rfl (by kernel_rfl) (by kernel_rfl) (by kernel_rfl) (fun _ _ _ h => h) (Or.inl ⟨by rfl, ?_⟩) (by assumption) ?_
                              rotate_left
                              · intro w hSw; (try dsimp only at hSw); go_simp; (try with_reducible rfl)
                              try simp only [Act.put, List.setIfInBounds_toArray, List.set_cons_zero, List.set_cons_succ]
                              refine wpAnyH_take (i := 11) (oi := { dst := some 174, op := Op.indexAddr 22 (Operand.tmp 172) (Operand.tmp 173), type := 0, pos := "law.go:110", after := #[{ on := 9, ground := Ground.data }, { on := 10, ground := Ground.data }], guard := none }) (v := ?_) rfl (by kernel_rfl) (by kernel_rfl) (by kernel_rfl) (fun _ _ _ h => h) (Or.inl ⟨by rfl, ?_⟩) (by assumption) ?_
                              rotate_left
                              · intro w hSw; (try dsimp only at hSw); go_simp; (try with_reducible rfl)
                              try simp only [Act.put, List.setIfInBounds_toArray, List.set_cons_zero, List.set_cons_succ]
                              refine wpAnyH_take (i := 12) (oi := { dst := some 175, op := Op.load 9 (Operand.tmp 174), type := 9, pos := "law.go:110", after := #[{ on := 11, ground := Ground.data }], guard := none }) (v := ?_) rfl (by kernel_rfl) (by kernel_rfl) (by kernel_rfl) (fun _ _ _ h => h) (Or.inl ⟨by rfl, ?_⟩) (by assumption) ?_
                              rotate_left
                              · intro w hSw; (try dsimp only at hSw); go_simp; (try with_reducible rfl)
                              try simp only [Act.put, List.setIfInBounds_toArray, List.set_cons_zero, List.set_cons_succ]
                              refine wpAnyH_ready (rs := [6]) (by kernel_rfl) (by simp) ?_
                              refine AllReadyH.cons (o := { dst := some 169, op := Op.call { callee := Callee.value (Operand.func 23), args := #[Operand.tmp 163, Operand.tmp 168], argTypes := #[53, 9] }, type := 4, pos := "law.go:110", after := #[{ on := 0, ground := Ground.data }, { on := 5, ground := Ground.data }], guard := none }) rfl (fun K hK => ?_) AllReadyH.nil
                              go_simp
                              refine (HHS.out _ hBd).mono ?_
                              rintro e wA ⟨rfl, hbA⟩
                              have hXA : Below wr.heap.size wr wA := hBd.trans (hbA.mono hBd.size)
                              clear hHeld
                              go_wp2_with fail
                              refine hK.out _ _ ⟨HZ1.out _ hXA, HT0.out _ hXA⟩ (fun hHeld => ?_)
                              clear hK K
                              try simp only [Act.put, List.setIfInBounds_toArray, List.set_cons_zero, List.set_cons_succ]
                              refine wpAnyH_ready (rs := [13]) (by kernel_rfl) (by simp) ?_
                              refine AllReadyH.cons (o := { dst := some 176, op := Op.call { callee := Callee.value (Operand.func 20), args := #[Operand.tmp 170, Operand.tmp 175], argTypes := #[22, 9] }, type := 4, pos := "law.go:110", after := #[{ on := 7, ground := Ground.data }, { on := 12, ground := Ground.data }, { on := 6, ground := Ground.chain }], guard := none }) rfl (fun K hK => ?_) AllReadyH.nil
                              go_simp
                              refine (HHN.out _ hXA).mono ?_
                              rintro e wB ⟨rfl, rfl⟩
                              go_wp2_with fail
                              refine hK.out _ _ hHeld (fun hHeld => ?_)
                              clear hK K
                              try simp only [Act.put, List.setIfInBounds_toArray, List.set_cons_zero, List.set_cons_succ]
                              refine wpAnyH_take (i := 14) (oi := { dst := some 177, op := Op.binOp BinOp.neq 4 (Operand.tmp 169) (Operand.tmp 176) 4, type := 4, pos := "law.go:110", after := #[{ on := 6, ground := Ground.data }, { on := 13, ground := Ground.data }], guard := none }) (v := ?_) rfl (by kernel_rfl) (by kernel_rfl) (by kernel_rfl) (fun _ _ _ h => h) (Or.inl ⟨by rfl, ?_⟩) (by assumption) ?_
                              rotate_left
                              · intro w hSw; (try dsimp only at hSw); go_simp; (try with_reducible rfl)
                              try simp only [Act.put, List.setIfInBounds_toArray, List.set_cons_zero, List.set_cons_succ]
                              refine wpAnyH_take (i := 15) (oi := { dst := some 178, op := Op.move (Operand.tmp 177), type := 4, pos := "law.go:110", after := #[{ on := 14, ground := Ground.data }, { on := 13, ground := Ground.chain }], guard := none }) (v := ?_) rfl (by kernel_rfl) (by kernel_rfl) (by kernel_rfl) (fun _ _ _ h => h) (Or.inl ⟨by rfl, ?_⟩) (by assumption) ?_
                              rotate_left
                              · intro w hSw; (try dsimp only at hSw); go_simp; (try with_reducible rfl)
                              try simp only [Act.put, List.setIfInBounds_toArray, List.set_cons_zero, List.set_cons_succ]
                              refine wpAnyH_take (i := 16) (oi := { dst := some 179, op := Op.move (Operand.tmp 2), type := 4, pos := "law.go:110", after := #[{ on := 15, ground := Ground.guard }], guard := some (15, false) }) (v := ?_) rfl (by kernel_rfl) (by kernel_rfl) (by kernel_rfl) (fun _ _ _ h => h) (Or.inl ⟨by rfl, ?_⟩) (by assumption) ?_
                              rotate_left
                              · intro w hSw; (try dsimp only at hSw); go_simp; (try with_reducible rfl)
                              try simp only [Act.put, List.setIfInBounds_toArray, List.set_cons_zero, List.set_cons_succ]
                              refine wpAnyH_take (i := 17) (oi := { dst := some 180, op := Op.move (Operand.tmp 179), type := 4, pos := "law.go:110", after := #[{ on := 16, ground := Ground.data }, { on := 15, ground := Ground.chain }, { on := 15, ground := Ground.guard }], guard := some (15, false) }) (v := ?_) rfl (by kernel_rfl) (by kernel_rfl) (by kernel_rfl) (fun _ _ _ h => h) (Or.inl ⟨by rfl, ?_⟩) (by assumption) ?_
                              rotate_left
                              · intro w hSw; (try dsimp only at hSw); go_simp; (try with_reducible rfl)
                              try simp only [Act.put, List.setIfInBounds_toArray, List.set_cons_zero, List.set_cons_succ]
                              refine wpAnyH_take (i := 18) (oi := { dst := some 181, op := Op.move (Operand.tmp 3), type := 4, pos := "law.go:110", after := #[{ on := 17, ground := Ground.guard }], guard := some (17, true) }) (v := ?_) rfl (by kernel_rfl) (by kernel_rfl) (by kernel_rfl) (fun _ _ _ h => h) (Or.inl ⟨by rfl, ?_⟩) (by assumption) ?_
                              rotate_left
                              · intro w hSw; (try dsimp only at hSw); go_simp; (try with_reducible rfl)
                              try simp only [Act.put, List.setIfInBounds_toArray, List.set_cons_zero, List.set_cons_succ]
                              refine wpAnyH_take (i := 19) (oi := { dst := some 182, op := Op.unOp UnOp.not 4 (Operand.tmp 181), type := 4, pos := "law.go:110", after := #[{ on := 18, ground := Ground.data }, { on := 17, ground := Ground.guard }], guard := some (17, true) }) (v := ?_) rfl (by kernel_rfl) (by kernel_rfl) (by kernel_rfl) (fun _ _ _ h => h) (Or.inl ⟨by rfl, ?_⟩) (by assumption) ?_
                              rotate_left
                              · intro w hSw; (try dsimp only at hSw); go_simp; (try with_reducible rfl)
                              try simp only [Act.put, List.setIfInBounds_toArray, List.set_cons_zero, List.set_cons_succ]
                              refine wpAnyH_take (i := 20) (oi := { dst := some 183, op := Op.pick (Operand.tmp 180) (Operand.tmp 182) (Operand.const (Value.bool false)), type := 4, pos := "law.go:110", after := #[{ on := 17, ground := Ground.data }, { on := 19, ground := Ground.data }, { on := 15, ground := Ground.guard }], guard := some (15, false) }) (v := ?_) rfl (by kernel_rfl) (by kernel_rfl) (by kernel_rfl) (fun _ _ _ h => h) (Or.inl ⟨by rfl, ?_⟩) (by assumption) ?_
                              rotate_left
                              · intro w hSw; (try dsimp only at hSw); go_simp; (try with_reducible rfl)
                              try simp only [Act.put, List.setIfInBounds_toArray, List.set_cons_zero, List.set_cons_succ]
                              refine wpAnyH_take (i := 21) (oi := { dst := some 184, op := Op.move (Operand.tmp 183), type := 4, pos := "law.go:110", after := #[{ on := 20, ground := Ground.data }, { on := 17, ground := Ground.chain }, { on := 15, ground := Ground.guard }], guard := some (15, false) }) (v := ?_) rfl (by kernel_rfl) (by kernel_rfl) (by kernel_rfl) (fun _ _ _ h => h) (Or.inl ⟨by rfl, ?_⟩) (by assumption) ?_
                              rotate_left
                              · intro w hSw; (try dsimp only at hSw); go_simp; (try with_reducible rfl)
                              try simp only [Act.put, List.setIfInBounds_toArray, List.set_cons_zero, List.set_cons_succ]
                              refine wpAnyH_take (i := 22) (oi := { dst := some 185, op := Op.fieldAddr 56 (Operand.tmp 13) 0, type := 0, pos := "law.go:110", after := #[{ on := 21, ground := Ground.guard }], guard := some (21, true) }) (v := undef) rfl (by kernel_rfl) (by kernel_rfl) (by kernel_rfl) (fun _ _ _ h => h) (Or.inr ⟨by rfl, rfl⟩) (by assumption) ?_
                              try simp only [Act.put, List.setIfInBounds_toArray, List.set_cons_zero, List.set_cons_succ]
                              refine wpAnyH_take (i := 23) (oi := { dst := some 186, op := Op.load 53 (Operand.tmp 185), type := 53, pos := "law.go:110", after := #[{ on := 22, ground := Ground.data }, { on := 21, ground := Ground.guard }], guard := some (21, true) }) (v := undef) rfl (by kernel_rfl) (by kernel_rfl) (by kernel_rfl) (fun _ _ _ h => h) (Or.inr ⟨by rfl, rfl⟩) (by assumption) ?_
                              try simp only [Act.put, List.setIfInBounds_toArray, List.set_cons_zero, List.set_cons_succ]
                              refine wpAnyH_take (i := 24) (oi := { dst := some 187, op := Op.fieldAddr 62 (Operand.tmp 18) 1, type := 0, pos := "law.go:110", after := #[{ on := 21, ground := Ground.guard }], guard := some (21, true) }) (v := undef) rfl (by kernel_rfl) (by kernel_rfl) (by kernel_rfl) (fun _ _ _ h => h) (Or.inr ⟨by rfl, rfl⟩) (by assumption) ?_
                              try simp only [Act.put, List.setIfInBounds_toArray, List.set_cons_zero, List.set_cons_succ]
                              refine wpAnyH_take (i := 25) (oi := { dst := some 188, op := Op.load 22 (Operand.tmp 187), type := 22, pos := "law.go:110", after := #[{ on := 24, ground := Ground.data }, { on := 21, ground := Ground.guard }], guard := some (21, true) }) (v := undef) rfl (by kernel_rfl) (by kernel_rfl) (by kernel_rfl) (fun _ _ _ h => h) (Or.inr ⟨by rfl, rfl⟩) (by assumption) ?_
                              try simp only [Act.put, List.setIfInBounds_toArray, List.set_cons_zero, List.set_cons_succ]
                              refine wpAnyH_take (i := 26) (oi := { dst := some 189, op := Op.move (Operand.tmp 23), type := 3, pos := "law.go:110", after := #[{ on := 21, ground := Ground.guard }], guard := some (21, true) }) (v := undef) rfl (by kernel_rfl) (by kernel_rfl) (by kernel_rfl) (fun _ _ _ h => h) (Or.inr ⟨by rfl, rfl⟩) (by assumption) ?_
                              try simp only [Act.put, List.setIfInBounds_toArray, List.set_cons_zero, List.set_cons_succ]
                              refine wpAnyH_take (i := 27) (oi := { dst := some 190, op := Op.indexAddr 22 (Operand.tmp 188) (Operand.tmp 189), type := 0, pos := "law.go:110", after := #[{ on := 25, ground := Ground.data }, { on := 26, ground := Ground.data }, { on := 21, ground := Ground.guard }], guard := some (21, true) }) (v := undef) rfl (by kernel_rfl) (by kernel_rfl) (by kernel_rfl) (fun _ _ _ h => h) (Or.inr ⟨by rfl, rfl⟩) (by assumption) ?_
                              try simp only [Act.put, List.setIfInBounds_toArray, List.set_cons_zero, List.set_cons_succ]
                              refine wpAnyH_take (i := 28) (oi := { dst := some 191, op := Op.load 9 (Operand.tmp 190), type := 9, pos := "law.go:110", after := #[{ on := 27, ground := Ground.data }, { on := 21, ground := Ground.guard }], guard := some (21, true) }) (v := undef) rfl (by kernel_rfl) (by kernel_rfl) (by kernel_rfl) (fun _ _ _ h => h) (Or.inr ⟨by rfl, rfl⟩) (by assumption) ?_
                              try simp only [Act.put, List.setIfInBounds_toArray, List.set_cons_zero, List.set_cons_succ]
                              refine wpAnyH_take (i := 29) (oi := { dst := some 192, op := Op.call { callee := Callee.value (Operand.func 23), args := #[Operand.tmp 186, Operand.tmp 191], argTypes := #[53, 9] }, type := 4, pos := "law.go:110", after := #[{ on := 23, ground := Ground.data }, { on := 28, ground := Ground.data }, { on := 21, ground := Ground.chain }, { on := 21, ground := Ground.guard }], guard := some (21, true) }) (v := undef) rfl (by kernel_rfl) (by kernel_rfl) (by kernel_rfl) (fun _ _ _ h => h) (Or.inr ⟨by rfl, rfl⟩) (by assumption) ?_
                              try simp only [Act.put, List.setIfInBounds_toArray, List.set_cons_zero, List.set_cons_succ]
                              refine wpAnyH_take (i := 30) (oi := { dst := some 193, op := Op.move (Operand.tmp 12), type := 53, pos := "law.go:110", after := #[{ on := 21, ground := Ground.guard }], guard := some (21, true) }) (v := undef) rfl (by kernel_rfl) (by kernel_rfl) (by kernel_rfl) (fun _ _ _ h => h) (Or.inr ⟨by rfl, rfl⟩) (by assumption) ?_
                              try simp only [Act.put, List.setIfInBounds_toArray, List.set_cons_zero, List.set_cons_succ]
                              refine wpAnyH_take (i := 31) (oi := { dst := some 194, op := Op.fieldAddr 62 (Operand.tmp 18) 1, type := 0, pos := "law.go:110", after := #[{ on := 21, ground := Ground.guard }], guard := some (21, true) }) (v := undef) rfl (by kernel_rfl) (by kernel_rfl) (by kernel_rfl) (fun _ _ _ h => h) (Or.inr ⟨by rfl, rfl⟩) (by assumption) ?_
                              try simp only [Act.put, List.setIfInBounds_toArray, List.set_cons_zero, List.set_cons_succ]
                              refine wpAnyH_take (i := 32) (oi := { dst := some 195, op := Op.load 22 (Operand.tmp 194), type := 22, pos := "law.go:110", after := #[{ on := 31, ground := Ground.data }, { on := 21, ground := Ground.guard }], guard := some (21, true) }) (v := undef) rfl (by kernel_rfl) (by kernel_rfl) (by kernel_rfl) (fun _ _ _ h => h) (Or.inr ⟨by rfl, rfl⟩) (by assumption) ?_
                              try simp only [Act.put, List.setIfInBounds_toArray, List.set_cons_zero, List.set_cons_succ]
                              refine wpAnyH_take (i := 33) (oi := { dst := some 196, op := Op.move (Operand.tmp 23), type := 3, pos := "law.go:110", after := #[{ on := 21, ground := Ground.guard }], guard := some (21, true) }) (v := undef) rfl (by kernel_rfl) (by kernel_rfl) (by kernel_rfl) (fun _ _ _ h => h) (Or.inr ⟨by rfl, rfl⟩) (by assumption) ?_
                              try simp only [Act.put, List.setIfInBounds_toArray, List.set_cons_zero, List.set_cons_succ]
                              refine wpAnyH_take (i := 34) (oi := { dst := some 197, op := Op.indexAddr 22 (Operand.tmp 195) (Operand.tmp 196), type := 0, pos := "law.go:110", after := #[{ on := 32, ground := Ground.data }, { on := 33, ground := Ground.data }, { on := 21, ground := Ground.guard }], guard := some (21, true) }) (v := undef) rfl (by kernel_rfl) (by kernel_rfl) (by kernel_rfl) (fun _ _ _ h => h) (Or.inr ⟨by rfl, rfl⟩) (by assumption) ?_
                              try simp only [Act.put, List.setIfInBounds_toArray, List.set_cons_zero, List.set_cons_succ]
                              refine wpAnyH_take (i := 35) (oi := { dst := some 198, op := Op.load 9 (Operand.tmp 197), type := 9, pos := "law.go:110", after := #[{ on := 34, ground := Ground.data }, { on := 21, ground := Ground.guard }], guard := some (21, true) }) (v := undef) rfl (by kernel_rfl) (by kernel_rfl) (by kernel_rfl) (fun _ _ _ h => h) (Or.inr ⟨by rfl, rfl⟩) (by assumption) ?_
                              try simp only [Act.put, List.setIfInBounds_toArray, List.set_cons_zero, List.set_cons_succ]
                              refine wpAnyH_take (i := 36) (oi := { dst := some 199, op := Op.call { callee := Callee.value (Operand.func 23), args := #[Operand.tmp 193, Operand.tmp 198], argTypes := #[53, 9] }, type := 4, pos := "law.go:110", after := #[{ on := 30, ground := Ground.data }, { on := 35, ground := Ground.data }, { on := 29, ground := Ground.chain }, { on := 21, ground := Ground.guard }], guard := some (21, true) }) (v := undef) rfl (by kernel_rfl) (by kernel_rfl) (by kernel_rfl) (fun _ _ _ h => h) (Or.inr ⟨by rfl, rfl⟩) (by assumption) ?_
                              try simp only [Act.put, List.setIfInBounds_toArray, List.set_cons_zero, List.set_cons_succ]
                              refine wpAnyH_take (i := 37) (oi := { dst := some 200, op := Op.binOp BinOp.neq 4 (Operand.tmp 192) (Operand.tmp 199) 4, type := 4, pos := "law.go:110", after := #[{ on := 29, ground := Ground.data }, { on := 36, ground := Ground.data }, { on := 21, ground := Ground.guard }], guard := some (21, true) }) (v := undef) rfl (by kernel_rfl) (by kernel_rfl) (by kernel_rfl) (fun _ _ _ h => h) (Or.inr ⟨by rfl, rfl⟩) (by assumption) ?_
                              try simp only [Act.put, List.setIfInBounds_toArray, List.set_cons_zero, List.set_cons_succ]
                              refine wpAnyH_take (i := 38) (oi := { dst := some 201, op := Op.pick (Operand.tmp 184) (Operand.tmp 200) (Operand.const (Value.bool false)), type := 4, pos := "law.go:110", after := #[{ on := 21, ground := Ground.data }, { on := 37, ground := Ground.data }, { on := 15, ground := Ground.guard }], guard := some (15, false) }) (v := ?_) rfl (by kernel_rfl) (by kernel_rfl) (by kernel_rfl) (fun _ _ _ h => h) (Or.inl ⟨by rfl, ?_⟩) (by assumption) ?_
                              rotate_left
                              · intro w hSw; (try dsimp only at hSw); go_simp; (try with_reducible rfl)
                              try simp only [Act.put, List.setIfInBounds_toArray, List.set_cons_zero, List.set_cons_succ]
                              refine wpAnyH_take (i := 39) (oi := { dst := some 202, op := Op.pick (Operand.tmp 178) (Operand.const (Value.bool true)) (Operand.tmp 201), type := 4, pos := "law.go:110", after := #[{ on := 15, ground := Ground.data }, { on := 38, ground := Ground.data }], guard := none }) (v := ?_) rfl (by kernel_rfl) (by kernel_rfl) (by kernel_rfl) (fun _ _ _ h => h) (Or.inl ⟨by rfl, ?_⟩) (by assumption) ?_
                              rotate_left
                              · intro w hSw; (try dsimp only at hSw); go_simp; (try with_reducible rfl)
                              try simp only [Act.put, List.setIfInBounds_toArray, List.set_cons_zero, List.set_cons_succ]
                              refine wpAnyH_done (by kernel_rfl) ?_ _
                              go_wp2_with fail
                              go_meet
                              exact ⟨rfl, Lib.hid hXA⟩
                          | false =>
                            as_aux_lemma =>
                              have g1 := HOC.out wr hB0 rfl
                              first | go_region_held3 (fun w' => w'.cell? ⟨bx, 1, none⟩ = some (.slice (some ⟨bl, offl, none⟩) ll cl) ∧ w'.cell? ⟨bl, offl + j, none⟩ = some (.string t) ∧ w'.cell? ⟨g, 0, none⟩ = some (.pointer (some ⟨sb', 0, none⟩))) (first | exact ⟨z1, t1, g1⟩ | exact ⟨HZ1.out _ (by assumption), HT0.out _ (by assumption), HOC.out _ (by assumption) rfl⟩)
                                   (first
                                     | (go_at_call 23; refine (HHS.out _ (by assumption)).mono ?_; rintro e wA ⟨rfl, hbA⟩; have hXA : Below wr.heap.size wr wA := Below.trans (by assumption) (hbA.mono (Below.size (by assumption))))
                                     | (go_at_call 20; refine (HHN.out _ (by assumption)).mono ?_; rintro e wA ⟨rfl, rfl⟩)) | fail
                              all_goals
                                go_wp2_with fail
                                go_meet
                                exact ⟨rfl, Lib.hid (by assumption)⟩
                      case rest =>
                        obtain ⟨rfl, HBX2⟩ := hcut
                        have HB2 := Lib.hid (HB.out.trans (HBX2.out.mono HB.out.size))
                        go_wp2_with fail
                        go_roundw
                        case rel => exact ⟨j + 1, by go_num, by omega, HB2⟩
                        case measure => simp [RowKit.intOf]; omega
                    · have hjz : ¬ (j : Int) < (ll : Int) := by omega
                      have H5 := Lib.hid (HS3.out.1.step HB.out)
                      have HLI := Lib.hid (H5.out.listed (by have := HS3.out.2.1; omega))
                      go_wp2_with fail
                      refine HLI.out.mono ?_
                      rintro e w3 ⟨lv, rfl, hlv, hb3⟩
                      have HKP := Lib.hid (H5.out.kept hb3 hlv (by omega) (by have := HS3.out.2.1; omega) HS3.out.2.2)
                      clear hlv hb3 HLI
                      go_wp2_with fail
                      refine HKP.out.mono ?_
                      rintro e w4 ⟨rfl, h6, ht6⟩
                      have H6 := Lib.hid h6
                      have HSA : Hid (Calls Tryz.prog 9 #[lv, .slice an nn cn] w4 fun e w' => e = .returned (.bool true) ∧ Below w4.heap.size w4 w') := Lib.hid (by
                        refine (same_any lv (.slice an nn cn) (sortedS D') (sortedS D') w4 ht6 (h6.texts (by rw [sortedS_length]; have := HS3.out.2.1; omega) (fun z hz => by have := HS3.out.2.2 z ((mem_sortedS HS3.out.1.str z).1 hz); omega))).mono ?_
                        rintro e w' ⟨rfl, hb⟩
                        exact ⟨by simp, hb⟩)
                      clear h6 ht6 HKP
                      go_wp2_with fail
                      refine HSA.out.mono ?_
                      rintro e w5' ⟨rfl, hb5⟩
                      have H7 := Lib.hid (H6.out.step hb5)
                      have HLN := Lib.hid H7.out.len
                      rw [← HQN.out] at HLN
                      clear hb5 HSA
                      go_wp2_with fail
                      refine HLN.out.mono ?_
                      rintro e w6 ⟨rfl, rfl⟩
                      go_wp2_with fail
                      go_roundw
                      case rel => exact ⟨q + 1, p', D', _, rfl, by go_num, by omega, Lib.hid ⟨H7.out.nocall, HS3.out.2.1, HS3.out.2.2⟩⟩
                      case measure => simp [RowKit.intOf]; omega
            · have hltz : ¬ (q : Int) < (n : Int) := by omega
              go_wp2_with fail
              refine (HAL.out _).mono ?_
              rintro e w2 ⟨rfl, hb2⟩
              have HI2 := Lib.hid (HI.out.1.step hb2)
              have HAP := Lib.hid (HI2.out.book.apart (by omega))
              clear hb2 HI
              go_wp2_with fail
              refine HAP.out.mono ?_
              rintro e w3 ⟨rfl, ht3⟩
              have HB3 := Lib.hid (HI2.out.below.trans (ht3.below HI2.out.below.size fun k _ hk => by have := HI2.out.lo; have := HI2.out.hi; omega))
              go_wp2_with fail
              go_ret
              exact ⟨rfl, HB3.out⟩

theorem NameSets_walk (v : Value) (first : List ByteArray) (o : ByteArray) (owned zero : Bool) (u : Value) (ops : List Op) (w : World) (hv : TextsAt w v first) (ho : o.size ≤ 140737488351232) (hu : OpsAt w u ops) :
    Calls Tryz.prog 4 #[v, .string o, .bool owned, .bool zero, u] w fun e w' => e = .returned (.bool true) ∧ Below w.heap.size w w' := by
  cases h : shortB 300 9000 first with
  | false => exact NameSets_bad v first o owned zero u ops w hv hu (.inl h)
  | true =>
    by_cases h2 : 200 < ops.length
    · exact NameSets_bad v first o owned zero u ops w hv hu (.inr h2)
    · exact NameSets_good v first o owned zero u ops w ho hv hu h (by omega)
end Go.Proofs.YtgbknjpjhkegdaaGreat
