/-
  The document's answer: which text comes first.
-/
import Derived.Test.YtgbknjpjhkegdaaGreatBookX
namespace Go.Proofs.YtgbknjpjhkegdaaGreat
open Go.RowKit

theorem lt_at : ∀ (k : Nat) (x y : List UInt8), x.take k = y.take k → ∀ (hx : k < x.length) (hy : k < y.length), x[k] < y[k] → x < y
  | 0, a :: x, b :: y, _, _, _, h => List.cons_lt_cons_iff.2 (.inl h)
  | k + 1, a :: x, b :: y, e, hx, hy, h => by
    rw [List.take_succ_cons, List.take_succ_cons] at e
    injection e with e1 e2
    exact List.cons_lt_cons_iff.2 (.inr ⟨e1, lt_at k x y e2 (by simpa using hx) (by simpa using hy) h⟩)
  | _, [], _, _, hx, _, _ => by simp at hx
  | _, _ :: _, [], _, _, hy, _ => by simp at hy
theorem lt_short : ∀ (x y : List UInt8), x = y.take x.length → x.length < y.length → x < y
  | [], b :: y, _, _ => List.nil_lt_cons b y
  | a :: x, b :: y, e, h => by
    rw [List.length_cons, List.take_succ_cons] at e
    injection e with e1 e2
    exact List.cons_lt_cons_iff.2 (.inr ⟨e1, lt_short x y e2 (by simpa using h)⟩)
  | _, [], _, h => by simp at h

theorem take_snocU {x : List UInt8} {k : Nat} (h : k < x.length) : x.take (k + 1) = x.take k ++ [x[k]] := List.take_succ_eq_append_getElem h
theorem cmpS_lt {a b : ByteArray} (h : a.data.toList < b.data.toList) : cmpS a b = -1 := by unfold cmpS; rw [if_pos h]
theorem cmpS_gt {a b : ByteArray} (h : b.data.toList < a.data.toList) : cmpS a b = 1 := by
  unfold cmpS
  rw [if_neg (fun h2 => List.lt_irrefl _ (List.lt_trans h h2)), if_pos h]

set_option maxHeartbeats 1600000 in
theorem refCmp_any (a b : ByteArray) (w : World) (_ : a.size ≤ 100000) (_ : b.size ≤ 100000) :
    Calls Tryz.prog 16 #[.string a, .string b] w fun e w' => e = .returned (.int .i64 (cmpS a b)) ∧ Below w.heap.size w w' := by
  have la : a.data.toList.length = a.size := by simp
  have lb : b.data.toList.length = b.size := by simp
  obtain ⟨r, hr⟩ : ∃ r, r = cmpS a b := ⟨_, rfl⟩
  have H1 := Lib.hid (fun k (hx : k < a.size) (hy : k < b.size) (e : a.data.toList.take k = b.data.toList.take k) (h : a[k].toNat < b[k].toNat) => show r = -1 by
    rw [hr]; exact cmpS_lt (lt_at k _ _ e (by rw [la]; exact hx) (by rw [lb]; exact hy) (by simpa using (show a.data[k] < b.data[k] from UInt8.lt_iff_toNat_lt.2 h))))
  have H2 := Lib.hid (fun k (hx : k < a.size) (hy : k < b.size) (e : a.data.toList.take k = b.data.toList.take k) (h : b[k].toNat < a[k].toNat) => show r = 1 by
    rw [hr]; exact cmpS_gt (lt_at k _ _ e.symm (by rw [lb]; exact hy) (by rw [la]; exact hx) (by simpa using (show b.data[k] < a.data[k] from UInt8.lt_iff_toNat_lt.2 h))))
  have H3 := Lib.hid (fun (e : a.data.toList.take a.size = b.data.toList.take a.size) (h : a.size < b.size) => show r = -1 by
    rw [hr]; exact cmpS_lt (lt_short _ _ (by rw [la, ← e, List.take_of_length_le (by omega)]) (by omega)))
  have H4 := Lib.hid (fun (e : a.data.toList.take b.size = b.data.toList.take b.size) (h : b.size < a.size) => show r = 1 by
    rw [hr]; exact cmpS_gt (lt_short _ _ (by rw [lb, e, List.take_of_length_le (by omega)]) (by omega)))
  have H5 := Lib.hid (fun (e : a.data.toList.take a.size = b.data.toList.take a.size) (h : a.size = b.size) => show r = 0 by
    rw [List.take_of_length_le (by omega), List.take_of_length_le (by omega)] at e
    rw [hr]; unfold cmpS; rw [e, if_neg (List.lt_irrefl _), if_neg (List.lt_irrefl _)])
  have HS := Lib.hid (fun k (hx : k < a.size) (hy : k < b.size) (e : a.data.toList.take k = b.data.toList.take k) (h : a[k].toNat = b[k].toNat) => show a.data.toList.take (k + 1) = b.data.toList.take (k + 1) by
    rw [take_snocU (by rw [la]; exact hx), take_snocU (by rw [lb]; exact hy), e]
    have : a.data[k] = b.data[k] := UInt8.toNat_inj.1 h
    simpa using this)
  rw [← hr]
  clear hr la lb
  go_enter Tryz.func16, Tryz.ntmps16
  go_wp2_with fail
  go_loopw [5] (fun i wr => ∃ k : Nat, i = .int .i64 k ∧ k ≤ a.size ∧ k ≤ b.size ∧ Hid (a.data.toList.take k = b.data.toList.take k) ∧ Below w.heap.size w wr) (fun i _ => (a.size - RowKit.intOf i).toNat)
  case atStart => exact ⟨0, rfl, Nat.zero_le _, Nat.zero_le _, Lib.hid rfl, Below.refl _ _⟩
  case round =>
    obtain ⟨k, rfl, hka, hkb, HE, hbw⟩ := hrel
    have HB := Lib.hid hbw
    clear hbw
    by_cases h1 : k < a.size
    · have h1z : (k : Int) < (a.size : Int) := by omega
      by_cases h2 : k < b.size
      · have h2z : (k : Int) < (b.size : Int) := by omega
        have b1 := UInt8.toNat_lt a[k]
        have b2 := UInt8.toNat_lt b[k]
        rcases Nat.lt_trichotomy a[k].toNat b[k].toNat with h | h | h
        · have hr : r = -1 := H1.out k h1 h2 HE.out h
          have hz : (a[k].toNat : Int) < (b[k].toNat : Int) := by omega
          go_wp2_with fail
          go_quiet (fail)
          go_wp2
          go_ret
          exact ⟨by first | rfl | (rw [hr]; rfl), below_drewN HB.out _⟩
        · have hn := HS.out k h1 h2 HE.out h
          have HNX := Lib.hid hn
          have hz : ¬ (a[k].toNat : Int) < (b[k].toNat : Int) := by omega
          have hz2 : ¬ (b[k].toNat : Int) < (a[k].toNat : Int) := by omega
          clear hn
          go_wp2_with fail
          go_quiet (fail)
          go_wp2_with fail
          go_quiet (fail)
          go_wp2
          go_roundw
          case rel => exact ⟨k + 1, by go_num, by omega, by omega, HNX, by first | exact below_drewN HB.out _ | exact below_drewN (below_drewN HB.out _) _⟩
          case measure => simp [RowKit.intOf]; omega
        · have hr : r = 1 := H2.out k h1 h2 HE.out h
          have hz : ¬ (a[k].toNat : Int) < (b[k].toNat : Int) := by omega
          have hz2 : (b[k].toNat : Int) < (a[k].toNat : Int) := by omega
          go_wp2_with fail
          go_quiet (fail)
          go_wp2_with fail
          go_quiet (fail)
          go_wp2
          go_ret
          exact ⟨by first | rfl | (rw [hr]; rfl), by first | exact below_drewN HB.out _ | exact below_drewN (below_drewN HB.out _) _⟩
      · have h2z : ¬ (k : Int) < (b.size : Int) := by omega
        have hr : r = 1 := by
          obtain rfl : k = b.size := by omega
          exact H4.out HE.out h1
        have hs1 : ¬ (a.size : Int) < (b.size : Int) := by omega
        have hs2 : (b.size : Int) < (a.size : Int) := by omega
        go_wp2
        go_ret
        exact ⟨by first | rfl | (rw [hr]; rfl), HB.out⟩
    · have h1z : ¬ (k : Int) < (a.size : Int) := by omega
      obtain rfl : k = a.size := by omega
      by_cases h2 : a.size < b.size
      · have hs1 : (a.size : Int) < (b.size : Int) := by omega
        have hr : r = -1 := H3.out HE.out h2
        go_wp2
        go_ret
        exact ⟨by first | rfl | (rw [hr]; rfl), HB.out⟩
      · have hs1 : ¬ (a.size : Int) < (b.size : Int) := by omega
        have hs2 : ¬ (b.size : Int) < (a.size : Int) := by omega
        have hr : r = 0 := H5.out HE.out (by omega)
        go_wp2
        go_ret
        exact ⟨by first | rfl | (rw [hr]; rfl), HB.out⟩

end Go.Proofs.YtgbknjpjhkegdaaGreat
