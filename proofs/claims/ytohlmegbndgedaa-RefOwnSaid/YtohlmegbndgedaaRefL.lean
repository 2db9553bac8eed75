/-
  ref: rows of accounts that are read; slices.IndexFunc, slices.DeleteFunc at accounts; Accounts.
-/
import Derived.Test.YtohlmegbndgedaaRefI
namespace Go.Proofs.Ytohlmegbndgedaa
open Go.RowKit Go.Maps Go.WideMaps Held

/-- Is an account left out, where the accounts of s are asked for? -/
def delB (s : ByteArray) (x : Acc) : Bool := !(decide (s.data.toList = [])) && !(decide (x.party.data.toList = s.data.toList))

theorem bytes_nil {s : ByteArray} (h : s.data.toList = []) : s = ⟨#[]⟩ := bytes_ext (by rw [h])

theorem del_any (s : ByteArray) (x : Acc) (B : Nat) (w : World) (hB : B < w.heap.size) (hc : w.cell? ⟨B, 0, none⟩ = some (.string s)) :
    Calls Try.prog 44 #[.agg #[.string x.name, .string x.party], .pointer (some ⟨B, 0, none⟩)] w fun e w' => e = .returned (.bool (delB s x)) ∧ Below w.heap.size w w' := by
  have hne : B ≠ w.heap.size := by omega
  have hbe : Below w.heap.size w (w.alloc (.cells #[.string x.name, .string x.party] 40)) := (Below.refl _ w).alloc (Nat.le_refl _) _
  have HB := Lib.hid hbe
  have hc2 := (hbe.cell (p := ⟨B, 0, none⟩) hB).trans hc
  clear hbe
  by_cases h0 : s.data.toList = []
  · have HD := Lib.hid (show delB s x = false by simp [delB, h0])
    have hs := bytes_nil h0
    subst hs
    clear h0
    go_enter Try.func44, Try.ntmps44
    go_wp2
    go_ret
    exact ⟨by rw [HD.out]; rfl, HB.out⟩
  · have e1 : s.toList.isEmpty = false := by
      rw [ByteArray.toList_eq]
      cases h : s.data.toList with
      | nil => exact absurd h h0
      | cons => rfl
    by_cases h1 : x.party = s
    · have HD := Lib.hid (show delB s x = false by simp [delB, h1])
      obtain ⟨nm, pa⟩ := x
      simp only at h1
      subst h1
      clear h0
      go_enter Try.func44, Try.ntmps44
      go_wp2
      go_ret
      exact ⟨by rw [HD.out]; rfl, HB.out⟩
    · have h2 : x.party.data.toList ≠ s.data.toList := fun e => h1 (bytes_ext e)
      have e2 : (x.party.toList == s.toList) = false := by rw [ByteArray.toList_eq, ByteArray.toList_eq]; simpa using fun e => h1 (bytes_ext (by simpa using e))
      have HD := Lib.hid (show delB s x = true by simp only [delB, decide_eq_false h0, decide_eq_false h2]; rfl)
      clear h0 h1 h2
      go_enter Try.func44, Try.ntmps44
      go_wp2
      go_ret
      exact ⟨by rw [HD.out]; rfl, HB.out⟩

/-- The rows ys lie at g, from o on, and may be written. -/
def Row2 (w : World) (g o : Nat) (ys : List Acc) : Prop := g < w.heap.size ∧ (∀ j, w.frozen? ⟨g, j, none⟩ = false) ∧ ∀ t, t < ys.length → w.cell? ⟨g, o + t * 2, none⟩ = some (.string (ys.getD t acc0).name) ∧ w.cell? ⟨g, o + t * 2 + 1, none⟩ = some (.string (ys.getD t acc0).party)
theorem Row2.below {w w' : World} {g o : Nat} {ys : List Acc} (h : Row2 w g o ys) (hb : Below w.heap.size w w') : Row2 w' g o ys :=
  ⟨Nat.lt_of_lt_of_le h.1 hb.size, fun j => (hb.frozen (p := ⟨g, j, none⟩) h.1).trans (h.2.1 j), fun t ht => ⟨(hb.cell (p := ⟨g, _, none⟩) h.1).trans (h.2.2 t ht).1, (hb.cell (p := ⟨g, _, none⟩) h.1).trans (h.2.2 t ht).2⟩⟩

def AccRow (w : World) (a : Option Addr) (xs : List Acc) : Prop := xs = [] ∨ ∃ b off, a = some ⟨b, off, none⟩ ∧ b < w.heap.size ∧ ∀ t, t < xs.length → w.cell? ⟨b, off + t * 2, none⟩ = some (.string (xs.getD t acc0).name) ∧ w.cell? ⟨b, off + t * 2 + 1, none⟩ = some (.string (xs.getD t acc0).party)
theorem AccRow.below {w w' : World} {a : Option Addr} {xs : List Acc} (h : AccRow w a xs) (hb : Below w.heap.size w w') : AccRow w' a xs := by
  rcases h with h4 | ⟨b, off, e, hlt, hc⟩
  · exact .inl h4
  · exact .inr ⟨b, off, e, by have := hb.size; omega, fun t ht => ⟨(hb.cell (p := ⟨b, _, none⟩) hlt).trans (hc t ht).1, (hb.cell (p := ⟨b, _, none⟩) hlt).trans (hc t ht).2⟩⟩
theorem OwnQ.row {w : World} {base : Nat} {v : Value} {xs : List Acc} (h : OwnQ w base v xs) : ∃ a c, v = .slice a xs.length c ∧ (xs = [] ∨ ∃ g, a = some ⟨g, 0, none⟩ ∧ base ≤ g ∧ Row2 w g 0 xs) ∧ xs.length ≤ c := by
  obtain ⟨hl, h2⟩ := h
  rcases h2 with ⟨rfl, h0⟩ | ⟨g, cap, cur, rfl, hb, hg, hnc, hcs, hs, ht⟩
  · have := List.eq_nil_of_length_eq_zero h0
    subst this
    exact ⟨none, 0, rfl, .inl rfl, Nat.zero_le _⟩
  · refine ⟨_, cap, rfl, .inr ⟨g, rfl, hb, (Array.getElem?_eq_some_iff.1 hg).1, fun j => by simp [World.frozen?, hg], fun t htt => ?_⟩, hnc⟩
    have key : ∀ j u, (AccsCells xs)[j]? = some u → w.cell? ⟨g, j, none⟩ = some u := fun j u hu => by
      rw [cell_of_row _ _ _ cur _ (0, 0) hg]
      have hj : j < xs.length * 2 := by rw [← AccsCells_len]; exact (List.getElem?_eq_some_iff.1 hu).1
      rw [← ht, List.getElem?_take_of_lt hj, Array.getElem?_toList] at hu
      exact hu
    rw [Nat.zero_add]
    have h0 := flat_get Acc.cells 2 (fun _ => rfl) acc0 xs t 0 htt (by omega)
    have h1 := flat_get Acc.cells 2 (fun _ => rfl) acc0 xs t 1 htt (by omega)
    exact ⟨key _ _ h0, key _ _ h1⟩

set_option maxRecDepth 100000 in
set_option maxHeartbeats 1600000 in
theorem index_none2 (v : Value) (w : World) : Calls Try.prog 55 #[.slice none 0 0, v] w fun e w' => e = .returned (.int .i64 (-1)) ∧ w = w' := by
  go_enter Try.func55, Try.ntmps55
  go_wp2_with fail
  go_loop [8] (fun i => i = .int .i64 0) (fun _ => 0)
  case atStart => rfl
  case round =>
    obtain rfl := hrel
    go_wp2
    go_ret
    exact ⟨rfl, rfl⟩

/-- What IndexFunc finds. -/
def Found (s : ByteArray) (xs : List Acc) (r : Int) : Prop := (r = -1 ∧ ∀ j, j < xs.length → delB s (xs.getD j acc0) = false) ∨ ∃ k : Nat, r = k ∧ k < xs.length ∧ delB s (xs.getD k acc0) = true ∧ ∀ j, j < k → delB s (xs.getD j acc0) = false

set_option maxRecDepth 100000 in
set_option maxHeartbeats 1600000 in
theorem index_any (s : ByteArray) (B g o c : Nat) (xs : List Acc) (w : World) (h : Row2 w g o xs) (hB : B < w.heap.size) (hc : w.cell? ⟨B, 0, none⟩ = some (.string s)) (hl : xs.length ≤ 1000) :
    Calls Try.prog 55 #[.slice (some ⟨g, o, none⟩) xs.length c, .func (.func 44) #[] #[.pointer (some ⟨B, 0, none⟩)]] w fun e w' => ∃ r, e = .returned (.int .i64 r) ∧ Found s xs r ∧ Below w.heap.size w w' := by
  obtain ⟨L, hL⟩ : ∃ L, L = xs.length := ⟨_, rfl⟩
  rw [← hL] at hl ⊢
  have HL := Lib.hid hL
  have HC := Lib.hid hc
  have HR := Lib.hid h
  clear hL hc h
  go_enter Try.func55, Try.ntmps55
  go_wp2_with fail
  go_loopw [5, 8] (fun _ i wr => ∃ k : Nat, i = .int .i64 k ∧ k ≤ L ∧ Hid (∀ j, j < k → delB s (xs.getD j acc0) = false) ∧ Below w.heap.size w wr) (fun _ i _ => (L - RowKit.intOf i).toNat)
  case atStart => exact ⟨0, rfl, Nat.zero_le _, Lib.hid (fun j hj => absurd hj (Nat.not_lt_zero _)), Below.refl _ _⟩
  case round =>
    obtain ⟨k, rfl, hk, HA, hbw⟩ := hrel
    have HB := Lib.hid hbw
    by_cases hlt : k < L
    · have hltz : (k : Int) < (L : Int) := by omega
      have h2 : k < xs.length := by rw [← HL.out]; exact hlt
      obtain ⟨x0, x1⟩ := (HR.out.below hbw).2.2 k h2
      have hcall := del_any s (xs.getD k acc0) B wr (Nat.lt_of_lt_of_le hB hbw.size) ((hbw.cell (p := ⟨B, 0, none⟩) hB).trans HC.out)
      obtain ⟨x, hx⟩ : ∃ x, x = xs.getD k acc0 := ⟨_, rfl⟩
      rw [← hx] at x0 x1 hcall
      have HX := Lib.hid hx
      clear hx h2 hbw
      cases hq : delB s x with
      | true =>
        rw [hq] at hcall
        have HQ := Lib.hid hq
        clear hq
        go_wp2_with fail
        refine hcall.mono ?_
        rintro e w' ⟨rfl, hb'⟩
        go_wp2
        go_ret
        exact ⟨_, rfl, .inr ⟨k, rfl, by rw [← HL.out]; exact hlt, by rw [← HX.out]; exact HQ.out, HA.out⟩, HB.out.trans (hb'.mono HB.out.size)⟩
      | false =>
        rw [hq] at hcall
        have HQ := Lib.hid hq
        clear hq
        go_wp2_with fail
        refine hcall.mono ?_
        rintro e w' ⟨rfl, hb'⟩
        have HB2 := Lib.hid (HB.out.trans (hb'.mono HB.out.size))
        clear hb'
        go_wp2
        go_roundw
        case rel =>
          refine ⟨k + 1, by go_num, by omega, Lib.hid (fun j hj => ?_), HB2.out⟩
          by_cases e : j = k
          · rw [e, ← HX.out]; exact HQ.out
          · exact HA.out j (by omega)
        case measure => simp [RowKit.intOf]; omega
    · have hltz : ¬ (k : Int) < (L : Int) := by omega
      go_wp2
      go_ret
      exact ⟨_, rfl, .inl ⟨rfl, fun j hj => HA.out j (by rw [← HL.out] at hj; omega)⟩, HB.out⟩

end Go.Proofs.Ytohlmegbndgedaa
