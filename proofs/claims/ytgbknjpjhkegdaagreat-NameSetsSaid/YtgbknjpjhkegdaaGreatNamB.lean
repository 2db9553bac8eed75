/-
  What Add answers, and what it leaves.
-/
import Derived.Test.YtgbknjpjhkegdaaGreatNamA
import Derived.Deep.DeepCutAuto
import Derived.Deep.RegionWith
import Derived.Shelf.SlMaps.Clone
namespace Go.Proofs.YtgbknjpjhkegdaaGreat
open Go.RowKit Go.Maps Go.WideMaps

def addOne (D : DU) (x : ByteArray) : DU := if hasS D x then D else D.put (.string x.data.toList) (.agg [])
def addAll (D : DU) : List ByteArray → DU
  | [] => D
  | x :: xs => addAll (addOne D x) xs

theorem addAll_snoc (x : ByteArray) : ∀ (xs : List ByteArray) (D : DU), addAll D (xs ++ [x]) = addOne (addAll D xs) x
  | [], _ => rfl
  | _ :: xs, _ => addAll_snoc x xs _

theorem key_s (x : ByteArray) : WideAt.IsKeyLit (.string x.data.toList) := by simp [WideAt.IsKeyLit]

theorem tidy_one {D : DU} (h : Tidy D) (x : ByteArray) : Tidy (addOne D x) := by
  unfold addOne; split
  · exact h
  · exact h.put (key_s x) _
theorem size_one {D : DU} (h : Tidy D) (x : ByteArray) : Maps.size (addOne D x) = if hasS D x then Maps.size D else Maps.size D + 1 := by
  unfold addOne; split
  · rfl
  · rename_i hx
    have := size_put (k := .string x.data.toList) h (.agg [])
    rw [this]
    exact if_neg hx
theorem tidy_addAll : ∀ (xs : List ByteArray) (D : DU), Tidy D → Tidy (addAll D xs)
  | [], _, h => h
  | x :: xs, _, h => tidy_addAll xs _ (tidy_one h x)
theorem size_addAll : ∀ (xs : List ByteArray) (D : DU), Tidy D → Maps.size D ≤ Maps.size (addAll D xs) ∧ Maps.size (addAll D xs) ≤ Maps.size D + xs.length
  | [], _, _ => ⟨Nat.le_refl _, Nat.le_refl _⟩
  | x :: xs, D, h => by
    have h1 := size_one h x
    have h2 := size_addAll xs _ (tidy_one h x)
    show _ ≤ Maps.size (addAll (addOne D x) xs) ∧ Maps.size (addAll (addOne D x) xs) ≤ _
    rw [List.length_cons]
    split at h1 <;> omega

theorem add_nil (v : Value) (w : World) : Calls Tryz.prog 21 #[.pointer none, v] w fun e w' => e = .returned (.int .i64 0) ∧ w = w' := by
  go_enter Tryz.func21, Tryz.ntmps21
  go_wp2
  go_ret
  exact ⟨rfl, rfl⟩

/-- The set's own block and its map's. -/
def Foot (b : Nat) (p : Option Nat) (k : Nat) : Prop := k = b ∨ some k = p
/-- The block m alone. -/
def Only (m : Nat) (k : Nat) : Prop := k = m
/-- m is the map of a set whose map was p, or a new one. -/
def MapOf (w : World) (p : Option Nat) (m : Nat) : Prop := p = some m ∨ (p = none ∧ w.heap.size ≤ m)

/-- What Add turns: the set's own block, its map's, and what is new. -/
def AddPost (w : World) (b : Nat) (p : Option Nat) (D : DU) (ss : List ByteArray) (e : Ending) (w' : World) : Prop :=
  e = .returned (.int .i64 ((Maps.size (addAll D ss) : Int) - Maps.size D)) ∧ Turns (Foot b p) w w' ∧ ∃ m, MapOf w p m ∧ SetAt w' b (some m) (addAll D ss)

set_option maxHeartbeats 1600000 in
theorem add_any (b : Nat) (p : Option Nat) (D : DU) (v : Value) (ss : List ByteArray) (w : World) (h : SetAt w b p D) (hpb : ∀ m, p = some m → m ≠ b) (hv : TextsAt w v ss) (hblk : ∀ q off n c, v = .slice (some ⟨q, off, none⟩) n c → ss = [] ∨ (q ≠ b ∧ p ≠ some q)) (hsz : Maps.size D + ss.length ≤ 1000000000000) :
    Calls Tryz.prog 21 #[.pointer (some ⟨b, 0, none⟩), v] w (AddPost w b p D ss) := by
  obtain ⟨h1, h2, h3, h4⟩ := h
  have hnil := fun w => fun q => run_eql_map_nil_sl (P := Tryz.prog) w 58 _ _ q Tryz.underlying58
  have hmm := @run_makeMap Tryz.prog
  have HM := Lib.hid h4
  have HPB := Lib.hid hpb
  have HS := Lib.hid hsz
  clear h4 hpb hsz
  go_enter Tryz.func21, Tryz.ntmps21
  go_upto_if 16 with fail
  go_cut [] (fun wx => ∃ m, MapOf w p m ∧ Hid (SetAt wx b (some m) D ∧ m ≠ b) ∧ Turns (Foot b p) w wx)
  case first =>
    rcases HM.out with ⟨rfl, hD⟩ | ⟨m, rfl, ho⟩
    · go_wp2
      go_meet
      have hbs : b ≠ w.heap.size := by omega
      refine ⟨w.heap.size, .inr ⟨rfl, Nat.le_refl _⟩, Lib.hid ⟨⟨by simp [World.setCell]; omega, ?_, ?_, .inr ⟨_, rfl, ?_⟩⟩, fun e => hbs e.symm⟩, ?_⟩
      · rw [World.frozen?_alloc_old _ _ _ (by simpa [World.setCell] using hbs), World.frozen?_setCell]; exact h2
      · rw [World.cell?_alloc_old _ _ _ (by simpa [World.setCell] using hbs)]
        exact World.cell?_setCell_same' _ _ _ (by rw [h3]; rfl)
      · rw [hD]
        have := World.ownsMap_made (H := Unit) (w.setCell ⟨b, 0, none⟩ (.map (some w.heap.size))) Tryz.prog 9 unitElem
        simpa [World.setCell, Maps.size] using this
      · refine ⟨rfl, rfl, rfl, by simp [World.setCell], fun k hk hs => ?_⟩
        rw [Below.heap_alloc _ _ _ (by simpa [World.setCell] using hk)]
        exact Below.heap_setCell _ _ _ _ (fun e => hs (.inl e))
    · go_wp2
      go_meet
      exact ⟨m, .inl rfl, Lib.hid ⟨⟨h1, h2, h3, .inr ⟨m, rfl, ho⟩⟩, HPB.out m rfl⟩, rfl, rfl, rfl, Nat.le_refl _, fun _ _ _ => rfl⟩
  case rest =>
    obtain ⟨m, Hm, Hst, ht⟩ := hcut
    clear hmm hnil h1 h2 h3 HM HPB
    obtain ⟨c1, c2, c3, _⟩ := Hst.out.1
    have ho : wc.ownsMap Tryz.prog 9 (unitElem (H := Unit)) m (Maps.size D) D := by
      rcases Hst.out.1.2.2.2 with ⟨h, _⟩ | ⟨m', h, ho⟩
      · cases h
      · obtain rfl := Option.some.inj h; exact ho
    have HO := Lib.hid ho
    clear ho c1 c2
    obtain ⟨a, c, rfl, hlen, hss, hcs⟩ := hv
    obtain ⟨n, hn⟩ : ∃ n, n = ss.length := ⟨_, rfl⟩
    rw [← hn] at hlen hblk ⊢
    have HX := Lib.hid hcs
    have HW := Lib.hid hss
    have HN := Lib.hid hn
    have HB := Lib.hid hblk
    clear hcs hss hn hblk
    obtain ⟨z, hz⟩ : ∃ z, z = Maps.size D := ⟨_, rfl⟩
    have HZ := Lib.hid hz
    clear hz
    go_wp2_with (at_len; refine wpList_len_own _ rfl _ 58 rfl 9 104 Tryz.underlying58 _ m _ _ rfl HO.out ?_; rw [← HZ.out])
    go_loopw [28] (fun s wr => ∃ k : Nat, s = .int .i64 k ∧ k ≤ n ∧ Hid (wr.ownsMap Tryz.prog 9 (unitElem (H := Unit)) m (Maps.size (addAll D (ss.take k))) (addAll D (ss.take k))) ∧ Turns (Only m) wc wr) (fun s _ => (n - RowKit.intOf s).toNat)
    case atStart => exact ⟨0, rfl, Nat.zero_le _, HO, rfl, rfl, rfl, Nat.le_refl _, fun _ _ _ => rfl⟩
    case round =>
      obtain ⟨k, rfl, hk, Ho, htr⟩ := hrel
      by_cases hlt : k < n
      · have hltz : (k : Int) < (n : Int) := by omega
        obtain ⟨q, off, rfl, hq, hc2⟩ := TextsAt.ne HX.out (k := k) (by rw [← HN.out]; exact hlt)
        have hcell := hc2 k (by rw [← HN.out]; exact hlt)
        have hqb : q ≠ b ∧ p ≠ some q := by
          rcases HB.out q off n c rfl with h | h
          · rw [h] at HN; have := HN.out; simp at this; omega
          · exact h
        have hqm : q ≠ m := by
          rcases Hm with h | ⟨_, h⟩
          · intro e; rw [e] at hqb; exact hqb.2 h
          · omega
        have hcell2 : wr.cell? ⟨q, off + k, none⟩ = some (.string (ss.getD k ByteArray.empty)) := by
          rw [htr.cell (p := ⟨q, off + k, none⟩) (Nat.lt_of_lt_of_le hq ht.size) hqm, ht.cell (p := ⟨q, off + k, none⟩) hq (fun h => by rcases h with h | h; exact hqb.1 h; exact hqb.2 h.symm)]
          exact hcell
        obtain ⟨y, hy⟩ : ∃ y, y = ss.getD k ByteArray.empty := ⟨_, rfl⟩
        rw [← hy] at hcell2
        have hys : y.size ≤ 140737488351232 := by
          rw [hy, getD_lt (by rw [← HN.out]; exact hlt)]
          exact HW.out _ (List.getElem_mem _)
        have hkey := keyOf_string_mk Tryz.underlying9 (size_max hys)
        have hbm : b ≠ m := fun e => Hst.out.2 e.symm
        have hcm : wr.cell? ⟨b, 0, none⟩ = some (.map (some m)) := by
          rw [htr.cell (p := ⟨b, 0, none⟩) Hst.out.1.1 hbm]; exact c3
        have hsn : addAll D (ss.take (k + 1)) = addOne (addAll D (ss.take k)) y := by
          rw [take_snoc (by rw [← HN.out]; exact hlt), addAll_snoc, ← hy]
        have HSN := Lib.hid hsn
        obtain ⟨Dk, hDk⟩ : ∃ Dk, Dk = addAll D (ss.take k) := ⟨_, rfl⟩
        rw [← hDk] at HSN Ho
        have HD := Lib.hid hDk
        clear hcell hc2 hq hqb hqm hy hsn hDk
        cases hh : hasS Dk y with
        | true =>
          have e1 : addOne Dk y = Dk := by unfold addOne; rw [if_pos hh]
          have HE := Lib.hid e1
          have hh' : Maps.has Dk (.string y.data.toList) = true := hh
          clear e1 hh
          go_wp2_with (at_lookup; refine wpList_lookup_own_unit _ rfl _ _ 58 rfl 9 104 lawS Tryz.underlying58 (zeroU _) m _ Dk rfl Ho.out _ _ rfl hkey ?_)
          go_roundw
          case rel => exact ⟨k + 1, by go_num, by omega, Lib.hid (by rw [HSN.out, HE.out]; exact Ho.out.alloc _), htr.trans (Turns.of_below ((Below.refl _ _).alloc (Nat.le_refl _) _))⟩
          case measure => simp [RowKit.intOf]; omega
        | false =>
          have hh' : Maps.has Dk (.string y.data.toList) = false := hh
          have e1 : addOne Dk y = Dk.put (.string y.data.toList) (.agg []) := by unfold addOne; rw [if_neg (by rw [hh]; simp)]
          have HE := Lib.hid e1
          clear e1 hh
          go_wp2_with (at_lookup; refine wpList_lookup_own_unit _ rfl _ _ 58 rfl 9 104 lawS Tryz.underlying58 (zeroU _) m _ Dk rfl Ho.out _ _ rfl hkey ?_)
          have hmw := Ho.out.lt
          have hbw : b < wr.heap.size := Nat.lt_of_lt_of_le Hst.out.1.1 htr.size
          have hDs : Maps.size Dk ≤ 1000000000000 := by
            have h1 := (size_addAll (ss.take k) D Hst.out.1.2.2.2.tidy).2
            have h2 := HS.out
            have h3 : (ss.take k).length ≤ ss.length := List.length_take_le' _ _
            rw [HD.out]; omega
          go_region_with (go_at_call 97; refine (clone_any _ _ hys).mono ?_; rintro e w2 ⟨rfl, hb2⟩; have hb3 : Below wr.heap.size wr w2 := (((Below.refl wr.heap.size wr).alloc (Nat.le_refl _) (.cells #[] 104)).drew).trans (hb2.mono (by simp)); have hcm3 : w2.cell? ⟨b, 0, none⟩ = some (.map (some m)) := (hb3.cell (p := ⟨b, 0, none⟩) hbw).trans hcm; have ho3 := ownsMap_turns (S := fun _ => False) Ho.out (Turns.of_below hb3) (fun h => h); obtain ⟨w4, hrun4, ho4, hg4⟩ := ho3.update lawS Tryz.underlying58 (by unfold maxLen; omega) hkey (unitElem_mk (H := Unit)); clear hb2)
          all_goals
            have ho5 := ownsMap_size ho4
            have ht5 : Turns (Only m) wc w4 := htr.trans ((Turns.of_below hb3).trans ⟨hg4.os, hg4.tape, hg4.output, hg4.size, fun j hj hn => hg4.block j hj (fun e => hn (Option.some.inj e))⟩)
            have HO5 := Lib.hid ho5
            clear ho5 ho4 hg4 hrun4 hcm3 ho3 hb3
            go_wp2
            go_roundw
            case rel => exact ⟨k + 1, by go_num, by omega, Lib.hid (by rw [HSN.out, HE.out]; exact HO5.out), ht5⟩
            case measure => simp [RowKit.intOf]; omega
      · have hltz : ¬ (k : Int) < (n : Int) := by omega
        have htk : ss.take k = ss := List.take_of_length_le (by rw [← HN.out]; omega)
        rw [htk] at Ho
        have hbm : b ≠ m := fun e => Hst.out.2 e.symm
        have hcm : wr.cell? ⟨b, 0, none⟩ = some (.map (some m)) := by
          rw [htr.cell (p := ⟨b, 0, none⟩) Hst.out.1.1 hbm]; exact c3
        have hfm : wr.frozen? ⟨b, 0, none⟩ = false := by
          rw [htr.frozen (p := ⟨b, 0, none⟩) Hst.out.1.1 hbm]; exact Hst.out.1.2.1
        obtain ⟨z2, hz2⟩ : ∃ z2, z2 = Maps.size (addAll D ss) := ⟨_, rfl⟩
        have hsz := size_addAll ss D Hst.out.1.2.2.2.tidy
        have hsb := HS.out
        have hz0 := HZ.out
        have hlo : (z : Int) ≤ z2 := by rw [hz0, hz2]; omega
        have hhi : (z2 : Int) ≤ 1000000000000 := by rw [hz2]; omega
        have hfin : AddPost w b p D ss (.returned (.int .i64 ((z2 : Int) - z))) wr := by
          refine ⟨by rw [hz2, hz0], ?_, m, Hm, Nat.lt_of_lt_of_le Hst.out.1.1 htr.size, hfm, hcm, .inr ⟨m, rfl, Ho.out⟩⟩
          refine ⟨htr.os.trans ht.os, htr.tape.trans ht.tape, htr.output.trans ht.output, Nat.le_trans ht.size htr.size, fun j hj hn => ?_⟩
          refine (htr.block j (Nat.lt_of_lt_of_le hj ht.size) (fun e => ?_)).trans (ht.block j hj hn)
          rcases Hm with h | ⟨_, h⟩
          · exact hn (.inr (by rw [h, show j = m from e]))
          · have e' : j = m := e
            omega
        have HF := Lib.hid hfin
        have HZ2 := Lib.hid hz2
        clear hfin hz2 hsz hsb hz0 htk hfm
        go_wp2_with (at_len; refine wpList_len_own _ rfl _ 58 rfl 9 104 Tryz.underlying58 _ m _ _ rfl Ho.out ?_; rw [← HZ2.out])
        go_ret
        exact HF.out

end Go.Proofs.YtgbknjpjhkegdaaGreat
