/-
  What Del, New, List and Sort answer, and what they leave.
-/
import Derived.Test.YtgbknjpjhkegdaaGreatNamB
namespace Go.Proofs.YtgbknjpjhkegdaaGreat
open Go.RowKit Go.Maps Go.WideMaps Go.Sort Go.Shelf

def delAll (D : DU) : List ByteArray → DU
  | [] => D
  | x :: xs => delAll (D.del (.string x.data.toList)) xs

theorem delAll_snoc (x : ByteArray) : ∀ (xs : List ByteArray) (D : DU), delAll D (xs ++ [x]) = (delAll D xs).del (.string x.data.toList)
  | [], _ => rfl
  | _ :: xs, _ => delAll_snoc x xs _

theorem tidy_delAll : ∀ (xs : List ByteArray) (D : DU), Tidy D → Tidy (delAll D xs)
  | [], _, h => h
  | _ :: xs, _, h => tidy_delAll xs _ (h.del _)
theorem size_delAll : ∀ (xs : List ByteArray) (D : DU), Tidy D → Maps.size (delAll D xs) ≤ Maps.size D
  | [], _, _ => Nat.le_refl _
  | x :: xs, D, h => by
    have h1 := size_del (k := .string x.data.toList) h
    have h2 := size_delAll xs _ (h.del (.string x.data.toList))
    show Maps.size (delAll (D.del (.string x.data.toList)) xs) ≤ _
    omega
theorem delAll_none : ∀ (xs : List ByteArray), delAll (.map []) xs = .map []
  | [] => rfl
  | _ :: xs => delAll_none xs
theorem empty_of_size {D : DU} (h : Tidy D) (hs : Maps.size D = 0) : D = .map [] := by
  obtain ⟨es, rfl, _⟩ := h
  rw [List.eq_nil_of_length_eq_zero (show es.length = 0 from hs)]

theorem del_nil (v : Value) (w : World) : Calls Tryz.prog 22 #[.pointer none, v] w fun e w' => e = .returned (.int .i64 0) ∧ w = w' := by
  go_enter Tryz.func22, Tryz.ntmps22
  go_wp2_with (go_at_call 25; refine (len_nil _).mono ?_; rintro e w' ⟨rfl, rfl⟩)
  go_ret
  exact ⟨rfl, rfl⟩

def DelPost (w : World) (b : Nat) (p : Option Nat) (D : DU) (ss : List ByteArray) (e : Ending) (w' : World) : Prop :=
  e = .returned (.int .i64 ((Maps.size D : Int) - Maps.size (delAll D ss))) ∧ Turns (Foot b p) w w' ∧ SetAt w' b p (delAll D ss)

set_option maxHeartbeats 1600000 in
theorem del_any (b : Nat) (p : Option Nat) (D : DU) (v : Value) (ss : List ByteArray) (w : World) (h : SetAt w b p D) (hpb : ∀ m, p = some m → m ≠ b) (hv : TextsAt w v ss) (hblk : ∀ q off n c, v = .slice (some ⟨q, off, none⟩) n c → ss = [] ∨ (q ≠ b ∧ p ≠ some q)) (hsz : Maps.size D ≤ 1000000000000) :
    Calls Tryz.prog 22 #[.pointer (some ⟨b, 0, none⟩), v] w (DelPost w b p D ss) := by
  have hty := h.2.2.2.tidy
  by_cases hz : Maps.size D = 0
  · have hD := empty_of_size hty hz
    subst hD
    have hfin : DelPost w b p (.map []) ss (.returned (.int .i64 0)) w := by
      rw [DelPost, delAll_none]
      exact ⟨by simp, ⟨rfl, rfl, rfl, Nat.le_refl _, fun _ _ _ => rfl⟩, h⟩
    have HF := Lib.hid hfin
    clear hfin hz
    go_enter Tryz.func22, Tryz.ntmps22
    go_wp2_with (go_at_call 25; refine (len_any _ _ _ _ h).mono ?_; rintro e w' ⟨rfl, rfl⟩)
    go_ret
    exact HF.out
  · obtain ⟨m, rfl⟩ : ∃ m, p = some m := by
      rcases h.2.2.2 with ⟨_, rfl⟩ | ⟨m, rfl, _⟩
      · exact absurd rfl hz
      · exact ⟨m, rfl⟩
    have hmb := hpb m rfl
    have ho : w.ownsMap Tryz.prog 9 (unitElem (H := Unit)) m (Maps.size D) D := by
      rcases h.2.2.2 with ⟨h, _⟩ | ⟨m', h, ho⟩
      · cases h
      · obtain rfl := Option.some.inj h; exact ho
    have hST := h
    obtain ⟨c1, c2, c3, _⟩ := h
    obtain ⟨z, hzz⟩ : ∃ z, z = Maps.size D := ⟨_, rfl⟩
    rw [← hzz] at hz hsz
    have hz1 : ((z : Int) == 0) = false := by simp; omega
    have hlen' := len_any b (some m) D w hST
    rw [← hzz] at hlen'
    obtain ⟨a, c, rfl, hlen, hss, hcs⟩ := hv
    obtain ⟨n, hn⟩ : ∃ n, n = ss.length := ⟨_, rfl⟩
    rw [← hn] at hlen hblk ⊢
    have HX := Lib.hid hcs
    have HW := Lib.hid hss
    have HN := Lib.hid hn
    have HB := Lib.hid hblk
    have HZ := Lib.hid hzz
    have HO := Lib.hid ho
    have HL := Lib.hid hlen'
    have HT := Lib.hid hty
    have HS := Lib.hid hST
    clear hcs hss hn hblk hzz ho hlen' hpb hty hST hz
    go_enter Tryz.func22, Tryz.ntmps22
    go_wp2_with (go_at_call 25; refine HL.out.mono ?_; rintro e w' ⟨rfl, rfl⟩)
    go_loopw [14] (fun s wr => ∃ k : Nat, s = .int .i64 k ∧ k ≤ n ∧ Hid (wr.ownsMap Tryz.prog 9 (unitElem (H := Unit)) m z (delAll D (ss.take k))) ∧ Turns (Only m) w wr) (fun s _ => (n - RowKit.intOf s).toNat)
    case atStart => exact ⟨0, rfl, Nat.zero_le _, Lib.hid (by rw [HZ.out]; exact HO.out), rfl, rfl, rfl, Nat.le_refl _, fun _ _ _ => rfl⟩
    case round =>
      obtain ⟨k, rfl, hk, Ho, htr⟩ := hrel
      have hbm : b ≠ m := fun e => hmb e.symm
      have hcm : wr.cell? ⟨b, 0, none⟩ = some (.map (some m)) := by
        rw [htr.cell (p := ⟨b, 0, none⟩) c1 hbm]; exact c3
      by_cases hlt : k < n
      · have hltz : (k : Int) < (n : Int) := by omega
        obtain ⟨q, off, rfl, hq, hc2⟩ := TextsAt.ne HX.out (k := k) (by rw [← HN.out]; exact hlt)
        have hcell := hc2 k (by rw [← HN.out]; exact hlt)
        have hqb : q ≠ b ∧ some m ≠ some q := by
          rcases HB.out q off n c rfl with h | h
          · rw [h] at HN; have := HN.out; simp at this; omega
          · exact h
        have hcell2 : wr.cell? ⟨q, off + k, none⟩ = some (.string (ss.getD k ByteArray.empty)) := by
          rw [htr.cell (p := ⟨q, off + k, none⟩) hq (fun e => hqb.2 (by rw [show q = m from e]))]
          exact hcell
        obtain ⟨y, hy⟩ : ∃ y, y = ss.getD k ByteArray.empty := ⟨_, rfl⟩
        rw [← hy] at hcell2
        have hys : y.size ≤ 140737488351232 := by
          rw [hy, getD_lt (by rw [← HN.out]; exact hlt)]
          exact HW.out _ (List.getElem_mem _)
        have hkey := keyOf_string_mk Tryz.underlying9 (size_max hys)
        have hsn : delAll D (ss.take (k + 1)) = (delAll D (ss.take k)).del (.string y.data.toList) := by
          rw [take_snoc (by rw [← HN.out]; exact hlt), delAll_snoc, ← hy]
        have HSN := Lib.hid hsn
        clear hcell hc2 hq hqb hy hsn hys
        go_wp2_with (at_delete; refine wpList_delete_own _ rfl _ _ 58 9 rfl 104 lawS Tryz.underlying58 _ m _ _ rfl Ho.out _ _ rfl hkey ?_; intro w2 ho2 ht2)
        have hg2 := ht2.grown
        have HO2 := Lib.hid ho2
        clear ho2 ht2
        go_roundw
        case rel => exact ⟨k + 1, by go_num, by omega, Lib.hid (by rw [HSN.out]; exact HO2.out), htr.trans ⟨hg2.os, hg2.tape, hg2.output, hg2.size, fun j hj hn => hg2.block j hj (fun e => hn (Option.some.inj e))⟩⟩
        case measure => simp [RowKit.intOf]; omega
      · have hltz : ¬ (k : Int) < (n : Int) := by omega
        have htk : ss.take k = ss := List.take_of_length_le (by rw [← HN.out]; omega)
        rw [htk] at Ho
        have hfm : wr.frozen? ⟨b, 0, none⟩ = false := by
          rw [htr.frozen (p := ⟨b, 0, none⟩) c1 hbm]; exact c2
        obtain ⟨z2, hz2⟩ : ∃ z2, z2 = Maps.size (delAll D ss) := ⟨_, rfl⟩
        have hle : z2 ≤ z := by rw [hz2, HZ.out]; exact size_delAll _ _ HT.out
        have hfin : DelPost w b (some m) D ss (.returned (.int .i64 ((z : Int) - z2))) wr := by
          refine ⟨by rw [hz2, HZ.out], ⟨htr.os, htr.tape, htr.output, htr.size, fun j hj hn => htr.block j hj (fun e => hn (.inr (by rw [show j = m from e])))⟩, Nat.lt_of_lt_of_le c1 htr.size, hfm, hcm, .inr ⟨m, rfl, ownsMap_size Ho.out⟩⟩
        have HF := Lib.hid hfin
        have HZ2 := Lib.hid hz2
        clear hfin hz2 htk hfm
        go_wp2_with (at_len; refine wpList_len_own _ rfl _ 58 rfl 9 104 Tryz.underlying58 _ m _ _ rfl Ho.out ?_; rw [← HZ2.out])
        go_ret
        exact HF.out

/-- What New leaves. -/
def NewPost (w : World) (ss : List ByteArray) (e : Ending) (w' : World) : Prop :=
  Below w.heap.size w w' ∧ ∃ b m, e = .returned (.pointer (some ⟨b, 0, none⟩)) ∧ w.heap.size ≤ b ∧ w.heap.size ≤ m ∧ m ≠ b ∧ SetAt w' b (some m) (addAll (.map []) ss)

theorem new_any (v : Value) (ss : List ByteArray) (w : World) (hv : TextsAt w v ss) (hl : ss.length ≤ 1000000000000) : Calls Tryz.prog 18 #[v] w (NewPost w ss) := by
  have hB : Below w.heap.size w (w.alloc (.cells #[.map none] 60)) := (Below.refl _ _).alloc (Nat.le_refl _) _
  have hs0 : SetAt (w.alloc (.cells #[.map none] 60)) w.heap.size none (.map []) := ⟨by simp, by simp, by simp, .inl ⟨rfl, rfl⟩⟩
  have hadd := add_any w.heap.size none (.map []) v ss _ hs0 (fun _ h => by cases h) (hv.below hB) (fun q off n c e => by
    obtain ⟨a, c', h1, _, _, h4⟩ := hv
    rcases h4 with h4 | ⟨b', off', e', hlt, _⟩
    · exact .inl h4
    · rw [h1, e'] at e
      simp at e
      exact .inr ⟨by omega, by simp⟩) (by simp [Maps.size]; omega)
  have HA := Lib.hid hadd
  have HB := Lib.hid hB
  clear hadd hs0 hB hv
  go_enter Tryz.func18, Tryz.ntmps18
  go_wp2_with (go_at_call 21; refine HA.out.mono ?_; rintro e w1 ⟨rfl, ht1, m, hm, hs1⟩)
  have hm2 : w.heap.size + 1 ≤ m := by
    rcases hm with h | ⟨_, h⟩
    · cases h
    · simpa using h
  have hfin : NewPost w ss (.returned (.pointer (some ⟨w.heap.size, 0, none⟩))) w1 :=
    ⟨ht1.below HB.out (fun k hk h => by rcases h with h | h; (have : k = w.heap.size := h); omega; cases h), _, m, rfl, Nat.le_refl _, by omega, by omega, hs1⟩
  have HF := Lib.hid hfin
  clear hfin ht1 hm hs1 hm2
  go_ret
  exact HF.out

end Go.Proofs.YtgbknjpjhkegdaaGreat
