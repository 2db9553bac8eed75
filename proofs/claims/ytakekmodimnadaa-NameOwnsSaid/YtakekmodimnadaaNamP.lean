/-
  Own; the walk of NameOwns.
-/
import Derived.Test.YtakekmodimnadaaNamL
import Derived.Deep.RegionHeld3
import Derived.Handy
namespace Go.Proofs.Ytakekmodimnadaa
open Go.RowKit Go.Maps Go.WideMaps

def OwnPost (w : World) (s : ByteArray) (ss : List ByteArray) (e : Ending) (w' : World) : Prop :=
  Below w.heap.size w w' ∧ ∃ b m, e = .returned (.agg #[.pointer (some ⟨b, 0, none⟩), .string s]) ∧ w.heap.size ≤ b ∧ w.heap.size ≤ m ∧ m ≠ b ∧ SetAt w' b (some m) (addAll (.map []) ss)

theorem own_any (s : ByteArray) (v : Value) (ss : List ByteArray) (w : World) (hs : s.size ≤ 140737488351232) (hv : TextsAt w v ss) (hl : ss.length ≤ 1000000000000) : Calls Try.prog 20 #[.string s, v] w (OwnPost w s ss) := by
  have hB : Below w.heap.size w (w.alloc (.cells #[.pointer none, .string ByteArray.empty] 34)) := (Below.refl _ _).alloc (Nat.le_refl _) _
  have HN := Lib.hid (new_any v ss _ (hv.below hB) hl)
  have HB := Lib.hid hB
  clear hB hv
  go_enter Try.func20, Try.ntmps20
  go_wp2_with fail
  refine HN.out.mono ?_
  rintro e w1 ⟨hb1, b, m, rfl, hlb, hlm, hmb, hs1⟩
  have hb1' := HB.out.trans (hb1.mono (by simp))
  have hc0 : (w1.cell? ⟨w.heap.size, 0, none⟩) = some (.pointer none) := (hb1.cell (p := ⟨w.heap.size, 0, none⟩) (by simp)).trans (by simp)
  have hc1 : (w1.cell? ⟨w.heap.size, 1, none⟩) = some (.string ByteArray.empty) := (hb1.cell (p := ⟨w.heap.size, 1, none⟩) (by simp)).trans (by simp)
  have hfz : (w1.frozen? ⟨w.heap.size, 0, none⟩) = false := (hb1.frozen (p := ⟨w.heap.size, 0, none⟩) (by simp)).trans (by simp)
  have hfz1 : (w1.frozen? ⟨w.heap.size, 1, none⟩) = false := (hb1.frozen (p := ⟨w.heap.size, 1, none⟩) (by simp)).trans (by simp)
  have HS := Lib.hid hs1
  have HB1 := Lib.hid hb1'
  clear HN HB hs1 hb1 hb1'
  go_wp2_with fail
  refine (clone_any s _ hs).mono ?_
  rintro e w2 ⟨rfl, hb2⟩
  have hlt : w.heap.size < w1.heap.size := by have := HB1.out.size; have h := HS.out.1; simp at hlb; omega
  replace hc0 := (hb2.cell (p := ⟨w.heap.size, 0, none⟩) hlt).trans hc0
  replace hc1 := (hb2.cell (p := ⟨w.heap.size, 1, none⟩) hlt).trans hc1
  replace hfz := (hb2.frozen (p := ⟨w.heap.size, 0, none⟩) hlt).trans hfz
  replace hfz1 := (hb2.frozen (p := ⟨w.heap.size, 1, none⟩) hlt).trans hfz1
  have HS2 := Lib.hid (HS.out.below hb2)
  have HB2 := Lib.hid (HB1.out.trans (hb2.mono HB1.out.size))
  have hne : b ≠ w.heap.size := by simp at hlb; omega
  have hnm : m ≠ w.heap.size := by simp at hlm; omega
  have hgb : w.heap.size ≤ b := by simp at hlb; omega
  have hgm : w.heap.size ≤ m := by simp at hlm; omega
  clear HS HB1 hb2 hlb hlm
  have e0 : ∀ u, (w2.setCell ⟨w.heap.size, 0, none⟩ u).cell? ⟨w.heap.size, 0, none⟩ = some u := fun u => World.cell?_setCell_same' _ _ _ (by rw [hc0]; rfl)
  have e1 : ∀ u u', ((w2.setCell ⟨w.heap.size, 0, none⟩ u).setCell ⟨w.heap.size, 1, none⟩ u').cell? ⟨w.heap.size, 1, none⟩ = some u' := fun u u' => World.cell?_setCell_same' _ _ _ (by rw [World.cell?_setCell_other _ _ _ _ (by simp), hc1]; rfl)
  go_wp2
  refine bodyPost_ret (v := .agg #[.pointer (some ⟨b, 0, none⟩), .string s]) (by simp [results, Try.results20, go_sem, e0, e1]) rfl ?_
  refine ⟨(HB2.out.setCell (Nat.le_refl _) _).setCell (Nat.le_refl _) _, b, m, rfl, hgb, hgm, hmb, ?_⟩
  refine HS2.out.turns (S := fun k => k = w.heap.size) ⟨rfl, rfl, rfl, by simp [World.setCell], fun k hk hs => ?_⟩ hne (fun m' h => by obtain rfl := Option.some.inj h; exact hnm)
  rw [Below.heap_setCell _ _ _ _ hs, Below.heap_setCell _ _ _ _ hs]

theorem drew_below' {w : World} : Below w.heap.size w w.drew := (Below.refl _ _).drew

/-- Two sets side by side, the lists that are handed in, and the cell of the owned one. -/
structure Two (w0 w : World) (b m : Nat) (D : DU) (b2 m2 : Nat) (D2 : DU) (l : List (Value × List ByteArray)) (g : Nat) (o : ByteArray) : Prop where
  below : Below w0.heap.size w0 w
  s1 : SetAt w b (some m) D
  s2 : SetAt w b2 (some m2) D2
  txt : ∀ p ∈ l, TextsAt w p.1 p.2 ∧ Away b m p.1 p.2 ∧ Away b2 m2 p.1 p.2
  c0 : w.cell? ⟨g, 0, none⟩ = some (.pointer (some ⟨b2, 0, none⟩))
  c1 : w.cell? ⟨g, 1, none⟩ = some (.string o)
  lg : g < w.heap.size
  l1 : w0.heap.size ≤ b ∧ w0.heap.size ≤ m ∧ w0.heap.size ≤ b2 ∧ w0.heap.size ≤ m2
  ne : m ≠ b ∧ m2 ≠ b2 ∧ b ≠ b2 ∧ b ≠ m2 ∧ m ≠ b2 ∧ m ≠ m2
  ng : g ≠ b ∧ g ≠ m ∧ g ≠ b2 ∧ g ≠ m2

variable {w0 w w' : World} {b m b2 m2 g : Nat} {D D2 : DU} {l : List (Value × List ByteArray)} {o : ByteArray} {xs : List ByteArray} {e : Ending}

theorem Two.step (h : Two w0 w b m D b2 m2 D2 l g o) (hb : Below w.heap.size w w') : Two w0 w' b m D b2 m2 D2 l g o :=
  ⟨h.below.trans (hb.mono h.below.size), h.s1.below hb, h.s2.below hb, fun p hp => ⟨(h.txt p hp).1.below hb, (h.txt p hp).2⟩,
    (hb.cell (p := ⟨g, 0, none⟩) h.lg).trans h.c0, (hb.cell (p := ⟨g, 1, none⟩) h.lg).trans h.c1, Nat.lt_of_lt_of_le h.lg hb.size, h.l1, h.ne, h.ng⟩
theorem Two.turn1 {D' : DU} (h : Two w0 w b m D b2 m2 D2 l g o) (ht : Turns (Foot b (some m)) w w') (hs : SetAt w' b (some m) D') : Two w0 w' b m D' b2 m2 D2 l g o := by
  have hne := h.ne
  have hng := h.ng
  have hf : ∀ k, k ≠ b → k ≠ m → ¬ Foot b (some m) k := fun k h1 h2 hf => by
    rcases hf with hf | hf
    · exact h1 hf
    · exact h2 (Option.some.inj hf)
  refine ⟨ht.below h.below (fun k hk => hf k (by have := h.l1; omega) (by have := h.l1; omega)), hs, h.s2.turns ht (hf _ (by omega) (by omega)) (fun k hk => by obtain rfl := Option.some.inj hk; exact hf _ (by omega) (by omega)),
    fun p hp => ⟨(h.txt p hp).1.foot ht (h.txt p hp).2.1, (h.txt p hp).2⟩, (ht.cell (p := ⟨g, 0, none⟩) h.lg (hf _ hng.1 hng.2.1)).trans h.c0, (ht.cell (p := ⟨g, 1, none⟩) h.lg (hf _ hng.1 hng.2.1)).trans h.c1, Nat.lt_of_lt_of_le h.lg ht.size, h.l1, h.ne, h.ng⟩
theorem Two.turn2 {D' : DU} (h : Two w0 w b m D b2 m2 D2 l g o) (ht : Turns (Foot b2 (some m2)) w w') (hs : SetAt w' b2 (some m2) D') : Two w0 w' b m D b2 m2 D' l g o := by
  have hne := h.ne
  have hng := h.ng
  have hf : ∀ k, k ≠ b2 → k ≠ m2 → ¬ Foot b2 (some m2) k := fun k h1 h2 hf => by
    rcases hf with hf | hf
    · exact h1 hf
    · exact h2 (Option.some.inj hf)
  refine ⟨ht.below h.below (fun k hk => hf k (by have := h.l1; omega) (by have := h.l1; omega)), h.s1.turns ht (hf _ (by omega) (by omega)) (fun k hk => by obtain rfl := Option.some.inj hk; exact hf _ (by omega) (by omega)), hs,
    fun p hp => ⟨(h.txt p hp).1.foot ht (h.txt p hp).2.2, (h.txt p hp).2⟩, (ht.cell (p := ⟨g, 0, none⟩) h.lg (hf _ hng.2.2.1 hng.2.2.2)).trans h.c0, (ht.cell (p := ⟨g, 1, none⟩) h.lg (hf _ hng.2.2.1 hng.2.2.2)).trans h.c1, Nat.lt_of_lt_of_le h.lg ht.size, h.l1, h.ne, h.ng⟩

theorem two_add1 {u : Value} (hin : (u, xs) ∈ l) (hsz : Maps.size D + xs.length ≤ 1000000000000) (w : World) (D2 : DU) (h : Two w0 w b m D b2 m2 D2 l g o) :
    Calls Try.prog 14 #[.pointer (some ⟨b, 0, none⟩), u] w fun e w' => e = .returned (.int .i64 ((Maps.size (addAll D xs) : Int) - Maps.size D)) ∧ Two w0 w' b m (addAll D xs) b2 m2 D2 l g o :=
  (add_any b (some m) D u xs w h.s1 (fun m' e => by obtain rfl := Option.some.inj e; exact h.ne.1) (h.txt _ hin).1 (h.txt _ hin).2.1 hsz).mono fun _ _ ⟨he, ht, m', hm, hs⟩ => by
    rcases hm with hm | ⟨hm, _⟩
    · obtain rfl := Option.some.inj hm
      exact ⟨he, h.turn1 ht hs⟩
    · cases hm
theorem two_add2 {u : Value} (hin : (u, xs) ∈ l) (hsz : Maps.size D2 + xs.length ≤ 1000000000000) (w : World) (D : DU) (h : Two w0 w b m D b2 m2 D2 l g o) :
    Calls Try.prog 14 #[.pointer (some ⟨b2, 0, none⟩), u] w fun e w' => e = .returned (.int .i64 ((Maps.size (addAll D2 xs) : Int) - Maps.size D2)) ∧ Two w0 w' b m D b2 m2 (addAll D2 xs) l g o :=
  (add_any b2 (some m2) D2 u xs w h.s2 (fun m' e => by obtain rfl := Option.some.inj e; exact h.ne.2.1) (h.txt _ hin).1 (h.txt _ hin).2.2 hsz).mono fun _ _ ⟨he, ht, m', hm, hs⟩ => by
    rcases hm with hm | ⟨hm, _⟩
    · obtain rfl := Option.some.inj hm
      exact ⟨he, h.turn2 ht hs⟩
    · cases hm
theorem two_del1 {u : Value} (hin : (u, xs) ∈ l) (hsz : Maps.size D ≤ 1000000000000) (w : World) (D2 : DU) (h : Two w0 w b m D b2 m2 D2 l g o) :
    Calls Try.prog 15 #[.pointer (some ⟨b, 0, none⟩), u] w fun e w' => e = .returned (.int .i64 ((Maps.size D : Int) - Maps.size (delAll D xs))) ∧ Two w0 w' b m (delAll D xs) b2 m2 D2 l g o :=
  (del_any b (some m) D u xs w h.s1 (fun m' e => by obtain rfl := Option.some.inj e; exact h.ne.1) (h.txt _ hin).1 (h.txt _ hin).2.1 hsz).mono fun _ _ ⟨he, ht, hs⟩ => ⟨he, h.turn1 ht hs⟩
theorem two_del2 {u : Value} (hin : (u, xs) ∈ l) (hsz : Maps.size D2 ≤ 1000000000000) (w : World) (D : DU) (h : Two w0 w b m D b2 m2 D2 l g o) :
    Calls Try.prog 15 #[.pointer (some ⟨b2, 0, none⟩), u] w fun e w' => e = .returned (.int .i64 ((Maps.size D2 : Int) - Maps.size (delAll D2 xs))) ∧ Two w0 w' b m D b2 m2 (delAll D2 xs) l g o :=
  (del_any b2 (some m2) D2 u xs w h.s2 (fun m' e => by obtain rfl := Option.some.inj e; exact h.ne.2.1) (h.txt _ hin).1 (h.txt _ hin).2.2 hsz).mono fun _ _ ⟨he, ht, hs⟩ => ⟨he, h.turn2 ht hs⟩
theorem two_list1 (hsz : Maps.size D ≤ 1000000000) (hf : Fits D) (w : World) (h : Two w0 w b m D b2 m2 D2 l g o) :
    Calls Try.prog 17 #[.pointer (some ⟨b, 0, none⟩)] w fun e w' => ∃ v, e = .returned v ∧ TextsAt w' v (sortedS D) ∧ Below w.heap.size w w' ∧ Two w0 w' b m D b2 m2 D2 l g o :=
  (list_any b (some m) D w h.s1 hsz hf).mono fun _ _ ⟨v, he, hn, hb⟩ => ⟨v, he, hn.1, hb, h.step hb⟩
theorem two_list2 (hsz : Maps.size D2 ≤ 1000000000) (hf : Fits D2) (w : World) (h : Two w0 w b m D b2 m2 D2 l g o) :
    Calls Try.prog 17 #[.pointer (some ⟨b2, 0, none⟩)] w fun e w' => ∃ v, e = .returned v ∧ TextsAt w' v (sortedS D2) ∧ Below w.heap.size w w' ∧ Two w0 w' b m D b2 m2 D2 l g o :=
  (list_any b2 (some m2) D2 w h.s2 hsz hf).mono fun _ _ ⟨v, he, hn, hb⟩ => ⟨v, he, hn.1, hb, h.step hb⟩

set_option maxRecDepth 4000 in
set_option maxHeartbeats 3200000 in
theorem NameOwns_walk (s : ByteArray) (v : Value) (ss : List ByteArray) (u : Value) (ts : List ByteArray) (w : World) (hsz : s.size ≤ 140737488351232) (hv : TextsAt w v ss) (hu : TextsAt w u ts) :
    Calls Try.prog 7 #[.string s, v, u] w fun e w' => e = .returned (.bool true) ∧ Below w.heap.size w w' := by
  have HS := Lib.hid (shorts_any v ss w hv)
  cases hb : shortB 300 9000 ss with
  | false =>
    have HB := Lib.hid hb
    clear hb hv hu
    go_enter Try.func7, Try.ntmps7
    go_wp2_with (first
      | (go_at_call 8; refine HS.out.mono ?_; rintro e w1 ⟨rfl, hb1⟩; rw [HB.out])
      | (go_at_call 9; refine (alive_any _).mono ?_; rintro e w2 ⟨rfl, hb2⟩))
    go_ret
    exact ⟨rfl, hb1.trans (hb2.mono hb1.size)⟩
  | true =>
    have HB := Lib.hid hb
    cases hb2 : shortB 300 9000 ts with
    | false =>
      have HB2 := Lib.hid hb2
      have HU := Lib.hid hu
      clear hb hb2 hv hu
      go_enter Try.func7, Try.ntmps7
      go_wp2_with fail
      refine HS.out.mono ?_
      rintro e w1 ⟨rfl, hb1⟩
      rw [HB.out]
      go_wp2_with fail
      refine (shorts_any u ts w1 (HU.out.below hb1)).mono ?_
      rintro e w2 ⟨rfl, hb2⟩
      rw [HB2.out]
      go_wp2_with fail
      refine (alive_any _).mono ?_
      rintro e w3 ⟨rfl, hb3⟩
      go_wp2
      go_ret
      exact ⟨rfl, (hb1.trans (hb2.mono hb1.size)).trans (hb3.mono (Nat.le_trans hb1.size hb2.size))⟩
    | true =>
      have HB2 := Lib.hid hb2
      have HF := Lib.hid (short_fit hb)
      have HF2 := Lib.hid (short_fit hb2)
      have HU := Lib.hid hu
      have HV := Lib.hid hv
      have HZ := Lib.hid hsz
      clear hb hb2 hv hu hsz
      have heqs : (s.toList == s.toList) = true := by simp
      go_enter Try.func7, Try.ntmps7
      go_wp2_with fail
      refine HS.out.mono ?_
      rintro e w1 ⟨rfl, hb1⟩
      rw [HB.out]
      go_wp2_with fail
      refine (shorts_any u ts w1 (HU.out.below hb1)).mono ?_
      rintro e w2 ⟨rfl, hb2⟩
      rw [HB2.out]
      have h2 : Below w.heap.size w w2 := hb1.trans (hb2.mono hb1.size)
      clear hb1 hb2
      go_wp2_with fail
      refine (new_any v ss w2 (HV.out.below h2) (by have := HF.out.1; omega)).mono ?_
      rintro e w3 ⟨hb3, b, m, rfl, hlb, hlm, hmb, hs3⟩
      have h3 : Below w.heap.size w w3 := h2.trans (hb3.mono h2.size)
      go_wp2_with fail
      refine (own_any s v ss w3 HZ.out (HV.out.below h3) (by have := HF.out.1; omega)).mono ?_
      rintro e w4 ⟨hb4, b2, m2, rfl, hlb2, hlm2, hmb2, hs4⟩
      have h4 : Below w.heap.size w w4 := h3.trans (hb4.mono h3.size)
      have hm3 : m < w3.heap.size := by
        rcases hs3.2.2.2 with ⟨h, _⟩ | ⟨m', h, ho⟩
        · cases h
        · obtain rfl := Option.some.inj h; exact ho.lt
      have hm4 : m2 < w4.heap.size := by
        rcases hs4.2.2.2 with ⟨h, _⟩ | ⟨m', h, ho⟩
        · cases h
        · obtain rfl := Option.some.inj h; exact ho.lt
      have hb3' := hs3.1
      have hb4' := hs4.1
      have z0 := h2.size
      have z1 := hb3.size
      have z2 := hb4.size
      have HQ := Lib.hid (show (w.heap.size ≤ b ∧ w.heap.size ≤ m ∧ w.heap.size ≤ b2 ∧ w.heap.size ≤ m2) ∧ (m ≠ b ∧ m2 ≠ b2 ∧ b ≠ b2 ∧ b ≠ m2 ∧ m ≠ b2 ∧ m ≠ m2) ∧ b < w4.heap.size ∧ m < w4.heap.size ∧ b2 < w4.heap.size ∧ m2 < w4.heap.size by omega)
      have HS1 := Lib.hid (hs3.below hb4)
      have HS2 := Lib.hid hs4
      have H4 := Lib.hid h4
      clear h2 hb3 hlb hlm hmb hs3 h3 hb4 hlb2 hlm2 hmb2 hs4 h4 hm3 hm4 hb3' hb4' z0 z1 z2 HS HB HB2
      go_wp2_with fail
      obtain ⟨D, hD⟩ : ∃ D : DU, D = addAll (.map []) ss := ⟨_, rfl⟩
      have hts : ∀ x ∈ ts, x.size ≤ 140737488351232 := fun x hx => by have := HF2.out.2 x hx; omega
      have hss : ∀ x ∈ ss, x.size ≤ 140737488351232 := fun x hx => by have := HF.out.2 x hx; omega
      have htd : Tidy D := by rw [hD]; exact tidy_setOf ss
      have hfi : Fits D := by rw [hD]; exact fits_addAll ss _ fits_none tidy_empty hss
      have z1 : Maps.size D ≤ 300 := by
        have := (size_addAll ss (.map []) tidy_empty).2
        have e : Maps.size (.map [] : DU) = 0 := rfl
        have h2 := HF.out.1
        rw [hD]; omega
      have z2 := (size_addAll ts D htd).2
      have htd2 := tidy_addAll ts D htd
      have hfi2 := fits_addAll ts D hfi htd hts
      have hfi3 := fits_delAll ss _ hfi2 htd2
      have z3 := size_delAll ss _ htd2
      have hl2 := HF2.out.1
      have hl1 := HF.out.1
      have T : Two w (w4.alloc (.cells #[.pointer (some ⟨b2, 0, none⟩), .string s] 34)) b m D b2 m2 D [(v, ss), (u, ts)] w4.heap.size s := by
        have hal : Below w4.heap.size w4 (w4.alloc (.cells #[.pointer (some ⟨b2, 0, none⟩), .string s] 34)) := (Below.refl _ _).alloc (Nat.le_refl _) _
        have hq := HQ.out
        rw [hD]
        refine ⟨H4.out.trans (hal.mono H4.out.size), HS1.out.below hal, HS2.out.below hal, fun p hp => ?_, by simp, by simp, by simp, hq.1, hq.2.1, by omega⟩
        simp at hp
        rcases hp with rfl | rfl
        · exact ⟨(HV.out.below H4.out).below hal, away_old HV.out hq.1.1 hq.1.2.1, away_old HV.out hq.1.2.2.1 hq.1.2.2.2⟩
        · exact ⟨(HU.out.below H4.out).below hal, away_old HU.out hq.1.1 hq.1.2.1, away_old HU.out hq.1.2.2.1 hq.1.2.2.2⟩
      obtain ⟨g, hg⟩ : ∃ g, g = w4.heap.size := ⟨_, rfl⟩
      obtain ⟨w5, hw5⟩ : ∃ w5, w5 = w4.alloc (.cells #[.pointer (some ⟨b2, 0, none⟩), .string s] 34) := ⟨_, rfl⟩
      rw [← hw5, ← hg]
      rw [← hw5, ← hg] at T
      have A1 := Lib.hid (fun W D2 h => two_add1 (w0 := w) (b := b) (m := m) (b2 := b2) (m2 := m2) (D := D) (g := g) (o := s) (xs := ts) (u := u) (l := [(v, ss), (u, ts)]) (by simp) (by omega) W D2 h)
      have A2 := Lib.hid (fun W D1 h => two_add2 (w0 := w) (b := b) (m := m) (b2 := b2) (m2 := m2) (D2 := D) (g := g) (o := s) (xs := ts) (u := u) (l := [(v, ss), (u, ts)]) (by simp) (by omega) W D1 h)
      obtain ⟨E, hE⟩ : ∃ E, E = addAll D ts := ⟨_, rfl⟩
      rw [← hE] at A1 A2 z2 hfi2 hfi3 htd2 z3
      have B1 := Lib.hid (fun W D2 h => two_del1 (w0 := w) (b := b) (m := m) (b2 := b2) (m2 := m2) (D := E) (g := g) (o := s) (xs := ss) (u := v) (l := [(v, ss), (u, ts)]) (by simp) (by omega) W D2 h)
      have B2 := Lib.hid (fun W D1 h => two_del2 (w0 := w) (b := b) (m := m) (b2 := b2) (m2 := m2) (D2 := E) (g := g) (o := s) (xs := ss) (u := v) (l := [(v, ss), (u, ts)]) (by simp) (by omega) W D1 h)
      obtain ⟨G, hG⟩ : ∃ G, G = delAll E ss := ⟨_, rfl⟩
      rw [← hG] at B1 B2 hfi3 z3
      have L1 := Lib.hid (fun W h => two_list1 (w0 := w) (b := b) (m := m) (b2 := b2) (m2 := m2) (D := G) (D2 := G) (g := g) (o := s) (l := [(v, ss), (u, ts)]) (by omega) hfi3 W h)
      have L2 := Lib.hid (fun W h => two_list2 (w0 := w) (b := b) (m := m) (b2 := b2) (m2 := m2) (D := G) (D2 := G) (g := g) (o := s) (l := [(v, ss), (u, ts)]) (by omega) hfi3 W h)
      have TT := Lib.hid T
      clear htd hfi z1 z2 htd2 hfi2 hfi3 z3 hl2 hl1 hts hss T hw5 hg hE hG hD HS1 HS2 HQ H4 HU HV HZ
      go_region_held3 (fun w' => w'.cell? ⟨g, 0, none⟩ = some (.pointer (some ⟨b2, 0, none⟩))) (first | assumption | exact TT.out.c0 | go_keep) (first
        | (go_at_call_of 14 (Value.pointer (some ⟨b, 0, none⟩)); (first | (refine (A1.out _ D ?_).mono ?_; (first | exact TT.out | exact TT.out.step drew_below')) | (refine (A1.out _ E ?_).mono ?_; (first | exact TT.out | exact TT.out.step drew_below'))); rintro e w6 ⟨rfl, T⟩; replace TT := Lib.hid T; clear T)
        | (go_at_call_of 14 (Value.pointer (some ⟨b2, 0, none⟩)); (first | (refine (A2.out _ D ?_).mono ?_; (first | exact TT.out | exact TT.out.step drew_below')) | (refine (A2.out _ E ?_).mono ?_; (first | exact TT.out | exact TT.out.step drew_below'))); rintro e w6 ⟨rfl, T⟩; replace TT := Lib.hid T; clear T))
      all_goals
        go_wp2_with fail
        go_region_held3 (fun w' => w'.cell? ⟨g, 0, none⟩ = some (.pointer (some ⟨b2, 0, none⟩))) (first | assumption | exact TT.out.c0 | go_keep) (first
          | (go_at_call_of 15 (Value.pointer (some ⟨b, 0, none⟩)); (first | (refine (B1.out _ E ?_).mono ?_; (first | exact TT.out | exact TT.out.step drew_below')) | (refine (B1.out _ G ?_).mono ?_; (first | exact TT.out | exact TT.out.step drew_below'))); rintro e w6 ⟨rfl, T⟩; replace TT := Lib.hid T; clear T)
          | (go_at_call_of 15 (Value.pointer (some ⟨b2, 0, none⟩)); (first | (refine (B2.out _ E ?_).mono ?_; (first | exact TT.out | exact TT.out.step drew_below')) | (refine (B2.out _ G ?_).mono ?_; (first | exact TT.out | exact TT.out.step drew_below'))); rintro e w6 ⟨rfl, T⟩; replace TT := Lib.hid T; clear T))
      all_goals
        go_wp2_with fail
        go_region_held3 (fun w' => w'.cell? ⟨g, 0, none⟩ = some (.pointer (some ⟨b2, 0, none⟩))) (first | assumption | exact TT.out.c0 | go_keep) (first
          | (go_at_call 9; refine (alive_any _).mono ?_; rintro e w7 ⟨rfl, hbx⟩; (first | (replace TT := Lib.hid (Two.step (Hid.out TT) hbx)) | (replace TT := Lib.hid (Two.step (Two.step (Hid.out TT) drew_below') hbx))); clear hbx)
          | (go_at_call_of 17 (Value.pointer (some ⟨b, 0, none⟩)); refine (L1.out _ ?_).mono ?_; (first | exact TT.out | exact TT.out.step drew_below'); rintro e w7 ⟨x1, rfl, hx, hbx, T⟩; replace TT := Lib.hid T; have X1 := Lib.hid hx; (try replace X2 := Lib.hid (TextsAt.below (Hid.out X2) hbx)); clear T hx hbx)
          | (go_at_call_of 17 (Value.pointer (some ⟨b2, 0, none⟩)); refine (L2.out _ ?_).mono ?_; (first | exact TT.out | exact TT.out.step drew_below'); rintro e w7 ⟨x2, rfl, hx, hbx, T⟩; replace TT := Lib.hid T; have X2 := Lib.hid hx; (try replace X1 := Lib.hid (TextsAt.below (Hid.out X1) hbx)); clear T hx hbx)
          | (go_at_call 12; refine (same_any x1 x2 _ _ _ (Hid.out X1) (Hid.out X2)).mono ?_; rintro e w8 ⟨rfl, hbx⟩; replace TT := Lib.hid (Two.step (Hid.out TT) hbx); clear hbx)
          | (go_at_call_of 16 (Value.pointer (some ⟨b, 0, none⟩)); refine (len_any b (some m) G _ ?_).mono ?_; (first | exact TT.out.s1 | exact (TT.out.step drew_below').s1); rintro e w9 ⟨rfl, rfl⟩)
          | (go_at_call_of 16 (Value.pointer (some ⟨b2, 0, none⟩)); refine (len_any b2 (some m2) G _ ?_).mono ?_; (first | exact TT.out.s2 | exact (TT.out.step drew_below').s2); rintro e w9 ⟨rfl, rfl⟩))
      all_goals
        go_wp2
        go_ret
        exact ⟨by first | rfl | simp, TT.out.below⟩

end Go.Proofs.Ytakekmodimnadaa
