/-
  What Close and New answer, and what they leave.
-/
import Derived.Test.YtfhpiedlhflndaaCalC
import Derived.Deep.DeepCutAuto
namespace Go.Proofs.Ytfhpiedlhflndaa
open Go.RowKit Go.Maps CalPure

/-- The map value p reads as D. -/
def MapHas (w : World) (p : Option Nat) (D : DU) : Prop := (p = none ∧ D = .map []) ∨ ∃ m n, p = some m ∧ m < w.heap.size ∧ w.ownsMap Try.prog 3 (unitElem (H := Unit)) m n D

theorem CalAt.parts {w : World} {b : Nat} {D : DU} (h : CalAt w b D) : b < w.heap.size ∧ w.frozen? ⟨b, 0, none⟩ = false ∧ ∃ p, w.cell? ⟨b, 0, none⟩ = some (.map p) ∧ MapHas w p D := by
  obtain ⟨h1, h2, h3⟩ := h
  refine ⟨h1, h2, ?_⟩
  rcases h3 with ⟨c, e⟩ | ⟨m, n, c, hm, ho⟩
  · exact ⟨none, c, .inl ⟨rfl, e⟩⟩
  · exact ⟨some m, c, .inr ⟨m, n, rfl, hm, ho⟩⟩

theorem clone_has (p : Option Nat) (D : DU) (w : World) (h : MapHas w p D) :
    Calls Try.prog 20 #[.map p] w fun e w' => (∃ q, e = .returned (.map q) ∧ Hid ((q = none ∧ D = .map []) ∨ ∃ m, q = some m ∧ w.heap.size ≤ m ∧ m < w'.heap.size ∧ w'.ownsMap Try.prog 3 (unitElem (H := Unit)) m (Maps.size D) D)) ∧ Below w.heap.size w w' := by
  rcases h with ⟨rfl, e⟩ | ⟨m, n, rfl, hm, ho⟩
  · refine (clone_nil w).mono fun e' w' ⟨he, hw⟩ => ?_
    subst hw
    exact ⟨⟨none, he, Lib.hid (.inl ⟨rfl, e⟩)⟩, Below.refl _ _⟩
  · refine (clone_any m (Maps.size D) D w ?_).mono fun e' w' ⟨he, ho', hb, hs⟩ => ?_
    · obtain ⟨es, clock, h1, F, _, hD⟩ := ho
      refine ⟨es, clock, h1, F, ?_, hD⟩
      rw [hD, Maps.size, length_read]; exact Nat.le_refl _
    · exact ⟨⟨_, he, Lib.hid (.inr ⟨_, rfl, Nat.le_refl _, hs, ho'⟩)⟩, hb⟩

/-- All of xs put into a set. -/
def putAll (D : DU) : List Int → DU
  | [] => D
  | x :: xs => putAll (D.put (.int .i64 x) (.agg [])) xs

theorem putAll_snoc (x : Int) : ∀ (xs : List Int) (D : DU), putAll D (xs ++ [x]) = (putAll D xs).put (.int .i64 x) (.agg [])
  | [], _ => rfl
  | _ :: xs, _ => putAll_snoc x xs _

def closeE (D : DU) (xs : List Int) : Int := if (xs.any fun x => !isDayB x) = true then 17 else if 300 < Maps.size (putAll D xs) then 2 else 0
def closeD (D : DU) (xs : List Int) : DU := if closeE D xs = 0 then putAll D xs else D

theorem close_nil (v : Value) (w : World) : Calls Try.prog 14 #[.pointer none, v] w fun e w' => e = .returned (.int .i64 1) ∧ w = w' := by
  go_enter Try.func14, Try.ntmps14
  go_wp2
  go_ret
  exact ⟨rfl, rfl⟩

theorem size_le_put (D : DU) (k : Lit) (d : DataW Unit) : Maps.size (D.put k d) ≤ Maps.size D + 1 := by
  cases D <;> simp [Maps.size, DataW.put]
  rw [length_insert]
  have := List.length_filter_le (fun p : Lit × DataW Unit => !p.1.sameKey k) (by assumption)
  omega

theorem take_snoc_i {xs : List Int} {k : Nat} (h : k < xs.length) : xs.take (k + 1) = xs.take k ++ [xs.getD k 0] := by
  rw [List.take_succ_eq_append_getElem h, getD_lt h]

theorem below_grown {w w' : World} {r : Option Nat} (h : Below w.heap.size w w') : w.grownBy w' r := ⟨h.os, h.tape, h.output, h.size, fun k hk _ => h.block k hk⟩

set_option maxHeartbeats 800000 in
theorem close_any (b : Nat) (D : DU) (v : Value) (xs : List Int) (w : World) (hc : CalAt w b D) (hv : IntsAt w v xs) (hs : Maps.size D ≤ 300) :
    Calls Try.prog 14 #[.pointer (some ⟨b, 0, none⟩), v] w fun e w' => e = .returned (.int .i64 (closeE D xs)) ∧ w.grownBy w' (some b) ∧ CalAt w' b (closeD D xs) := by
  by_cases hd : (xs.any fun x => !isDayB x) = true
  · have he : closeE D xs = 17 := by simp only [closeE, if_pos hd]
    have hD : closeD D xs = D := by unfold closeD; rw [he]; rfl
    rw [he, hD]
    have HC := Lib.hid hc
    have Hd := Lib.hid hd
    clear hc hd he hD
    go_enter Try.func14, Try.ntmps14
    go_wp2_with (go_at_call 18; refine (contains_any _ _ _ hv).mono ?_; rintro e w' ⟨rfl, rfl⟩; rw [Hd.out])
    go_ret
    exact ⟨rfl, below_grown (Below.refl _ _), HC.out⟩
  · have hd0 : (xs.any fun x => !isDayB x) = false := by simpa using hd
    have Hd := Lib.hid hd0
    clear hd hd0
    obtain ⟨hb, hfz, p, hcell, hmap⟩ := hc.parts
    have HM := Lib.hid hmap
    have HC := Lib.hid hc
    clear hmap hc
    have hnil := fun w => fun q => run_eql_map_nil_sl (P := Try.prog) w 37 _ _ q Try.underlying37
    have hmm := @run_makeMap Try.prog
    go_enter Try.func14, Try.ntmps14
    go_upto_if 20 with (first
      | (go_at_call 18; refine (contains_any _ _ _ hv).mono ?_; rintro e w' ⟨rfl, rfl⟩; rw [Hd.out])
      | (go_at_call 20; refine (clone_has _ _ _ HM.out).mono ?_; rintro e w1 ⟨⟨q, rfl, Hq⟩, hb1⟩))
    go_cut [5] (fun s5 wx => ∃ m, s5 = .map (some m) ∧ Hid (w.heap.size ≤ m ∧ wx.ownsMap Try.prog 3 (unitElem (H := Unit)) m (Maps.size D) D) ∧ Below w.heap.size w wx)
    case first =>
      rcases Hq.out with ⟨rfl, hD⟩ | ⟨m, rfl, hm1, hm2, ho⟩
      · go_wp2
        go_meet
        refine ⟨_, rfl, Lib.hid ⟨hb1.size, ?_⟩, hb1.alloc hb1.size _⟩
        rw [hD]; exact World.ownsMap_made _ _ _ _
      · go_wp2
        go_meet
        exact ⟨m, rfl, Lib.hid ⟨hm1, ho⟩, hb1⟩
    case rest =>
      obtain ⟨m, rfl, Hm, hbc⟩ := hcut
      clear hmm hnil Hq hb1
      obtain ⟨a, c, rfl, hlen, hwf, hcs⟩ := hv
      obtain ⟨n, hn⟩ : ∃ n, n = xs.length := ⟨_, rfl⟩
      rw [← hn] at hlen ⊢
      have HX := Lib.hid hcs
      have HW := Lib.hid hwf
      have HN := Lib.hid hn
      clear hcs hwf hn
      go_wp2
      go_loopw [24] (fun s wr => ∃ k : Nat, s = .int .i64 k ∧ k ≤ n ∧ Hid (wr.ownsMap Try.prog 3 (unitElem (H := Unit)) m (Maps.size D + k) (putAll D (xs.take k))) ∧ Below w.heap.size w wr) (fun s _ => (n - RowKit.intOf s).toNat)
      case atStart => exact ⟨0, rfl, Nat.zero_le _, Lib.hid Hm.out.2, hbc⟩
      case round =>
        obtain ⟨k, rfl, hk, Ho, hbw⟩ := hrel
        by_cases hlt : k < n
        · have hltz : (k : Int) < (n : Int) := by omega
          obtain ⟨b2, off, rfl, hb2, hc2⟩ := IntsAt.ne HX.out (k := k) (by rw [← HN.out]; exact hlt)
          have hcell2 := hc2 k (by rw [← HN.out]; exact hlt)
          rw [← hbw.cell (p := ⟨b2, off + k, none⟩) hb2] at hcell2
          clear hc2 hb2
          obtain ⟨y, hy⟩ : ∃ y, y = xs.getD k 0 := ⟨_, rfl⟩
          rw [← hy] at hcell2
          have hwy : (Lit.int .i64 y).wf = true := by
            rw [hy, getD_lt (by rw [← HN.out]; exact hlt)]
            exact HW.out _ (List.getElem_mem _)
          have hkey := keyOf_int_mk Try.underlying3 hwy
          have HY := Lib.hid hy
          clear hy hwy
          go_wp2_with (at_mapUpdate; refine wpList_mapUpdate_own _ rfl _ _ _ 37 rfl 3 40 lawI Try.underlying37 _ m _ _ rfl Ho.out (by unfold maxLen; omega) _ _ _ rfl rfl hkey _ [] unitElem_mk ?_; intro w2 hown2 hgrow2)
          go_roundw
          case rel =>
            refine ⟨k + 1, by go_num, by omega, Lib.hid ?_, hbw.grown hgrow2 hbw.size (fun j hj => by cases hj; exact Hm.out.1)⟩
            rw [take_snoc_i (by rw [← HN.out]; exact hlt), putAll_snoc, ← HY.out]
            exact hown2
          case measure => simp [RowKit.intOf]; omega
        · have hltz : ¬ (k : Int) < (n : Int) := by omega
          have ht : xs.take k = xs := List.take_of_length_le (by rw [← HN.out]; omega)
          rw [ht] at Ho
          have hfz2 : wr.frozen? ⟨b, 0, none⟩ = false := by rw [hbw.frozen (p := ⟨b, 0, none⟩) hb]; exact hfz
          have hcl2 : wr.cell? ⟨b, 0, none⟩ = some (.map p) := by rw [hbw.cell (p := ⟨b, 0, none⟩) hb]; exact hcell
          obtain ⟨z, hz⟩ : ∃ z, z = Maps.size (putAll D xs) := ⟨_, rfl⟩
          have HZ := Lib.hid hz
          have hd' := Hd.out
          clear hz
          by_cases h3 : 300 < z
          · have he : closeE D xs = 2 := by rw [closeE, Hd.out, ← HZ.out]; simp [h3]
            have hDD : closeD D xs = D := by unfold closeD; rw [he]; rfl
            have HE := Lib.hid (And.intro he hDD)
            clear he hDD hd'
            go_wp2_with (at_len; refine wpList_len_own _ rfl _ 37 rfl 3 40 Try.underlying37 _ m _ _ rfl Ho.out ?_; rw [← HZ.out])
            go_ret
            exact ⟨by rw [HE.out.1]; rfl, below_grown hbw, by rw [HE.out.2]; exact HC.out.below hbw⟩
          · have he : closeE D xs = 0 := by rw [closeE, Hd.out, ← HZ.out]; simp [h3]
            have hDD : closeD D xs = putAll D xs := by unfold closeD; rw [he]; rfl
            have HE := Lib.hid (And.intro he hDD)
            clear he hDD hd'
            go_wp2_with (at_len; refine wpList_len_own _ rfl _ 37 rfl 3 40 Try.underlying37 _ m _ _ rfl Ho.out ?_; rw [← HZ.out])
            go_ret
            have hbne : b ≠ m := by have := Hm.out.1; omega
            have hbig := hbw.size
            refine ⟨by rw [HE.out.1]; rfl, ?gg, ?cc⟩
            case gg => exact ⟨hbw.os, hbw.tape, hbw.output, by simpa [World.setCell] using hbw.size, fun j hj hne => (Below.heap_setCell _ _ _ _ (fun e => hne (by rw [e]))).trans (hbw.block j hj)⟩
            case cc =>
              rw [HE.out.2]
              exact ⟨by simp [World.setCell]; omega, by rw [World.frozen?_setCell]; exact hfz2, .inr ⟨m, _, World.cell?_setCell_same' _ _ _ (by rw [hcl2]; rfl), by have := Ho.out.lt; simpa [World.setCell] using this, Ho.out.setCell (fun e => hbne e.symm) _⟩⟩

theorem size_close (D : DU) (xs : List Int) (h : Maps.size D ≤ 300) : Maps.size (closeD D xs) ≤ 300 := by
  unfold closeD
  split
  · rename_i he
    unfold closeE at he
    split at he
    · cases he
    · split at he
      · cases he
      · omega
  · exact h

/-- What New answers, z being its error, and what it leaves. -/
def NewPost (w : World) (xs : List Int) (z : Int) (e : Ending) (w' : World) : Prop :=
  Below w.heap.size w w' ∧ ((z ≠ 0 ∧ e = .returned (.tuple #[.pointer none, .int .i64 z])) ∨
      (z = 0 ∧ ∃ b, e = .returned (.tuple #[.pointer (some ⟨b, 0, none⟩), .int .i64 0]) ∧ w.heap.size ≤ b ∧ CalAt w' b (putAll (.map []) xs)))

set_option maxHeartbeats 400000 in
theorem new_any (v : Value) (xs : List Int) (w : World) (hv : IntsAt w v xs) :
    Calls Try.prog 7 #[v] w (NewPost w xs (closeE (.map []) xs)) := by
  have hB : Below w.heap.size w (w.alloc (.cells #[.map none] 39)) := (Below.refl _ _).alloc (Nat.le_refl _) _
  have hv1 := hv.below hB
  have hc1 : CalAt (w.alloc (.cells #[.map none] 39)) w.heap.size (.map []) := ⟨by simp, by simp, .inl ⟨by simp, rfl⟩⟩
  have hcl := close_any w.heap.size (.map []) v xs _ hc1 hv1 (by simp [Maps.size])
  have HCL := Lib.hid hcl
  obtain ⟨z, hz⟩ : ∃ z, z = closeE (.map []) xs := ⟨_, rfl⟩
  have hD : z = 0 → closeD (.map []) xs = putAll (.map []) xs := fun h => by unfold closeD; rw [← hz, if_pos h]
  rw [← hz]
  have HZ := Lib.hid hz
  have HB := Lib.hid hB
  clear hcl hc1 hv1 hv hz hB
  by_cases h0 : z = 0
  · have HD := Lib.hid (hD h0)
    clear hD
    subst h0
    go_enter Try.func7, Try.ntmps7
    go_wp2_with (go_at_call 14; refine HCL.out.mono ?_; rintro e w1 ⟨rfl, hg, hc⟩; rw [← HZ.out])
    go_ret2
    refine ⟨HB.out.grown hg (by simp) (fun j hj => by cases hj; exact Nat.le_refl _), .inr ⟨rfl, _, rfl, Nat.le_refl _, ?_⟩⟩
    rw [HD.out] at hc; exact hc
  · have h1 : (z == 0) = false := by simpa using h0
    have h2 : (z != 0) = true := by simpa using h0
    have H0 := Lib.hid h0
    clear h0 hD
    go_enter Try.func7, Try.ntmps7
    go_wp2_with (go_at_call 14; refine HCL.out.mono ?_; rintro e w1 ⟨rfl, hg, hc⟩; rw [← HZ.out])
    go_ret2
    exact ⟨HB.out.grown hg (by simp) (fun j hj => by cases hj; exact Nat.le_refl _), .inl ⟨H0.out, rfl⟩⟩

end Go.Proofs.Ytfhpiedlhflndaa
