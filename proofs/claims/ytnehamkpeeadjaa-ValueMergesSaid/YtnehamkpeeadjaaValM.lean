/-
  value: Worth.
-/
import Derived.Test.YtnehamkpeeadjaaValL
namespace Go.Proofs.Ytnehamkpeeadjaa
open Go.RowKit

/-- What stocks are worth that may be pledged, behind a sum, and the error's number. -/
def worthAll (sum : Int) : List Stk → Int × Int
  | [] => (sum, 0)
  | x :: r => if x.pledge = false then worthAll sum r else
    if (worthF x.qty x.price x.cut).2 ≠ 0 then (0, (worthF x.qty x.price x.cut).2) else
    if (addF (sum + (worthF x.qty x.price x.cut).1)).2 = true then (0, 12) else worthAll (addF (sum + (worthF x.qty x.price x.cut).1)).1 r

theorem worth_none : ∀ (l : List Stk) (a : Int), (∀ x ∈ l, x.pledge = false) → worthAll a l = (a, 0)
  | [], _, _ => rfl
  | x :: r, a, h => by
    rw [worthAll, if_pos (h x (List.mem_cons_self ..))]
    exact worth_none r a fun y hy => h y (List.mem_cons_of_mem _ hy)

theorem cell_al {W : World} {o : Obj} {p : Addr} {v : Option Value} (h : W.cell? p = v) (hp : p.block < W.heap.size) : (W.alloc o).cell? p = v :=
  (((Below.refl W.heap.size W).alloc (Nat.le_refl _) o).cell hp).trans h
theorem frz_al {W : World} {o : Obj} {p : Addr} {v : Bool} (h : W.frozen? p = v) (hp : p.block < W.heap.size) : (W.alloc o).frozen? p = v :=
  (((Below.refl W.heap.size W).alloc (Nat.le_refl _) o).frozen hp).trans h

theorem ints_two {w : World} {x y : Int} (hx : i64 x) (hy : i64 y) (t : TypeId) : IntsAt (w.alloc (.cells #[.int .i64 x, .int .i64 y] t)) (.slice (some ⟨w.heap.size, 0, none⟩) 2 2) [x, y] := by
  refine ⟨_, _, rfl, by simp, fun z hz => ?_, .inr ⟨_, 0, rfl, by simp, fun j hj => ?_⟩⟩
  · simp at hz
    rcases hz with rfl | rfl
    · exact i64_wf hx
    · exact i64_wf hy
  · match j, hj with
    | 0, _ => simp
    | 1, _ => simp
    | n + 2, hj => exact absurd hj (by simp)

theorem worthF_no (q p c : Int) (h : (worthF q p c).2 ≠ 0) : (worthF q p c).2 = 1 ∨ (worthF q p c).2 = 12 := by
  unfold worthF at h ⊢
  split
  · exact .inl rfl
  · rename_i h1
    rw [if_neg h1] at h
    split
    · exact .inr rfl
    · rename_i h2
      rw [if_neg h2] at h
      exact absurd rfl h

set_option maxHeartbeats 1600000 in
theorem worths_any (v : Value) (xs : List Stk) (w : World) (hv : StocksAt w v xs) :
    Calls Try.prog 11 #[v] w fun e w' => e = .returned (.tuple #[.int .i64 (worthAll 0 xs).1, .int .i64 (worthAll 0 xs).2]) ∧ Below w.heap.size w w' := by
  obtain ⟨a, c, rfl, hlen, hwf, hcs⟩ := hv
  obtain ⟨n, hn⟩ : ∃ n, n = xs.length := ⟨_, rfl⟩
  rw [← hn] at hlen ⊢
  have HN := Lib.hid hn
  have HX := Lib.hid hcs
  have HW := Lib.hid hwf
  clear hn hcs hwf
  obtain ⟨r, hr⟩ : ∃ r, r = worthAll 0 xs := ⟨_, rfl⟩
  rw [← hr]
  have HR := Lib.hid hr
  clear hr
  go_enter Try.func11, Try.ntmps11
  go_wp2
  go_loopw [5, 12] (fun s i wr => ∃ (k : Nat) (sum : Int), s = .int .i64 sum ∧ i = .int .i64 k ∧ k ≤ n ∧ Hid (0 ≤ sum ∧ sum ≤ 1152921504606846976) ∧ Hid (r = worthAll sum (xs.drop k)) ∧
    wr.cell? ⟨w.heap.size, 0, none⟩ = some (.bool false) ∧ wr.frozen? ⟨w.heap.size, 0, none⟩ = false ∧ w.heap.size < wr.heap.size ∧ Below w.heap.size w wr) (fun _ i _ => (n - RowKit.intOf i).toNat)
  case atStart => exact ⟨0, 0, rfl, rfl, Nat.zero_le _, Lib.hid ⟨by omega, by omega⟩, HR, by simp, by simp, by simp, (Below.refl _ _).alloc (Nat.le_refl _) _⟩
  case round =>
    obtain ⟨k, sum, rfl, rfl, hk, HS, HQ, hc0, hf0, hsz, hbw⟩ := hrel
    have HB := Lib.hid hbw
    by_cases hlt : k < n
    · have hltz : (k : Int) < (n : Int) := by omega
      obtain ⟨b, off, rfl, hbl, c0, c1, c2, c3, c4, c5, c6, c7, c8⟩ := stk_cells HX.out (k := k) (by rw [← HN.out]; exact hlt)
      have h2 : k < xs.length := by rw [← HN.out]; exact hlt
      have hwfx := HW.out (xs.getD k stk0) (by
        rw [show xs.getD k stk0 = xs[k] by simp [List.getD, h2]]; exact List.getElem_mem h2)
      have hq := HQ.out
      rw [drop_cons h2 stk0, worthAll] at hq
      obtain ⟨s, hs⟩ : ∃ s, s = xs.getD k stk0 := ⟨_, rfl⟩
      rw [← hs] at c0 c1 c2 c3 c4 c5 c6 c7 c8 hwfx hq
      clear hs h2
      have HWX := Lib.hid hwfx
      have HQ2 := Lib.hid hq
      clear hwfx hq
      rw [← hbw.cell (p := ⟨b, _, none⟩) hbl] at c0 c1 c2 c3 c4 c5 c6 c7 c8
      cases hpl : s.pledge with
      | false =>
        rw [hpl] at c2
        have HP := Lib.hid hpl
        clear hpl
        go_wp2
        go_roundw
        case rel => exact ⟨k + 1, sum, rfl, by go_num, by omega, HS, Lib.hid (by rw [HQ2.out, if_pos HP.out]), cell_al hc0 hsz, frz_al hf0 hsz, by simp; omega, HB.out.alloc HB.out.size _⟩
        case measure => simp [RowKit.intOf]; omega
      | true =>
        rw [hpl] at c2
        have HP := Lib.hid hpl
        clear hpl
        have HM := Lib.hid (fun W => worth_any s.qty s.price s.cut W (i64_wf HWX.out.2.2.2.2.2) (i64_wf HWX.out.2.2.1))
        have hwb := worth_bd s.qty s.price s.cut
        have hwn := worthF_no s.qty s.price s.cut
        obtain ⟨y, hy⟩ : ∃ y, y = worthF s.qty s.price s.cut := ⟨_, rfl⟩
        have hq := HQ2.out
        rw [HP.out, if_neg (by simp)] at hq
        rw [← hy] at HM hwb hwn hq
        clear hy HQ2
        obtain ⟨y1, y2⟩ := y
        have HQ3 := Lib.hid hq
        have HNO := Lib.hid hwn
        have HWB := Lib.hid hwb
        clear hq hwn hwb
        go_wp2_with fail
        refine (HM.out _).mono ?_
        rintro e w2 ⟨rfl, hb2⟩
        have d0 : w2.cell? ⟨w.heap.size, 0, none⟩ = some (.bool false) := by rw [hb2.cell (p := ⟨w.heap.size, 0, none⟩) (by simp; omega)]; simpa [World.cell?_alloc_lt, hsz] using hc0
        have d1 : w2.frozen? ⟨w.heap.size, 0, none⟩ = false := by rw [hb2.frozen (p := ⟨w.heap.size, 0, none⟩) (by simp; omega)]; exact frz_al hf0 hsz
        have hbw2 : Below w.heap.size w w2 := (HB.out.alloc HB.out.size _).trans (hb2.mono (by have := HB.out.size; simp; omega))
        have hsz2 : w.heap.size < w2.heap.size := by have := hb2.size; simp at this; omega
        have HB2 := Lib.hid hbw2
        clear hb2 hbw2 c0 c1 c2 c3 c4 c5 c6 c7 c8 hc0 hf0 hbw
        by_cases hy2 : y2 = 0
        · subst hy2
          have hq := HQ3.out
          rw [if_neg (by simp)] at hq
          have hi1 : i64 sum := by have := HS.out; unfold i64; omega
          have hi2 : i64 y1 := by have := HWB.out; unfold i64; omega
          have HA := Lib.hid (fun W (hm : MarkAt W w.heap.size false) vv (hvv : IntsAt W vv [sum, y1]) => add_any w.heap.size false vv [sum, y1] W hm hvv)
          have HIN := Lib.hid (fun (W : World) t => ints_two (w := W) hi1 hi2 t)
          have hab : (addF (sum + y1)).2 = false → 0 ≤ (addF (sum + y1)).1 ∧ (addF (sum + y1)).1 ≤ 1152921504606846976 := by
            have h1 := HS.out
            have h2 := HWB.out
            intro h
            unfold addF at h ⊢
            split
            · rename_i hh; exact ⟨by simp only; omega, hh.2⟩
            · rename_i hh; rw [if_neg hh] at h; simp at h
          have es : [sum, y1].sum = sum + y1 := by simp
          rw [es] at HA
          obtain ⟨z, hz⟩ : ∃ z, z = addF (sum + y1) := ⟨_, rfl⟩
          have HAW : Hid (∀ W, AddW w.heap.size (sum + y1) W = if z.2 then W.setCell ⟨w.heap.size, 0, none⟩ (.bool true) else W) := Lib.hid (fun W => by rw [AddW, hz])
          rw [← hz] at HA hq hab
          clear hz es hi1 hi2
          obtain ⟨z1, z2⟩ := z
          have HQ4 := Lib.hid hq
          have HAB := Lib.hid hab
          clear hq hab
          go_wp2_with fail
          refine (HA.out _ ?_ _ (HIN.out _ _)).mono ?_
          · exact ⟨cell_al d0 hsz2, frz_al d1 hsz2⟩
          rintro e w3 ⟨rfl, rfl⟩
          rw [HAW.out]
          cases z2 with
          | true =>
            have HF := Lib.hid (show r = (0, 12) by rw [HQ4.out]; rfl)
            simp only [if_true]
            go_wp2
            go_ret2
            exact ⟨by rw [HF.out]; rfl, (HB2.out.setCell (Nat.le_refl _) _).alloc (by simpa using HB2.out.size) _⟩
          | false =>
            simp only [Bool.false_eq_true, if_false]
            have HAB2 := Lib.hid (HAB.out rfl)
            have HQ5 := Lib.hid (show r = worthAll z1 (xs.drop (k + 1)) by rw [HQ4.out, if_neg (by simp)])
            go_wp2
            go_roundw
            case rel => exact ⟨k + 1, z1, rfl, by go_num, by omega, HAB2, HQ5, cell_al d0 hsz2, frz_al d1 hsz2, by simp; omega, HB2.out.alloc HB2.out.size _⟩
            case measure => simp [RowKit.intOf]; omega
        · have hy2' : (y2 == 0) = false := by simpa using hy2
          have hy2'' : (y2 != 0) = true := by simpa using hy2
          have HF := Lib.hid (show r = (0, y2) by rw [HQ3.out, if_pos hy2])
          clear hy2
          go_wp2
          go_ret2
          exact ⟨by rw [HF.out]; rfl, HB2.out⟩
    · have hltz : ¬ (k : Int) < (n : Int) := by omega
      have HF := Lib.hid (show r = (sum, 0) by rw [HQ.out, List.drop_eq_nil_of_le (by rw [← HN.out]; omega)]; rfl)
      go_wp2
      go_ret2
      exact ⟨by rw [HF.out]; rfl, HB.out⟩

end Go.Proofs.Ytnehamkpeeadjaa
