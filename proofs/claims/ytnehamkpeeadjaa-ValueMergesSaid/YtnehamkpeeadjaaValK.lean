/-
  money: Acc.Add.
-/
import Derived.Test.YtnehamkpeeadjaaValJ
import Derived.Shelf.Spec.BitsCarry
namespace Go.Proofs.Ytnehamkpeeadjaa
open Go.RowKit

theorem add64_run (x y c : Nat) (hc : c ≤ 1) (w : World) : (callFunc 18 #[.int .u64 x, .int .u64 y, .int .u64 c]).run Try.prog w =
    .ok (.value (.tuple #[.int .u64 (((x + y + c) % 18446744073709551616 : Nat) : Int), .int .u64 (((x + y + c) / 18446744073709551616 : Nat) : Int)])) w := Any7.bits_Add64 Try.lays7n25 x y c hc w

theorem add64_run0 (x y : Nat) (w : World) : (callFunc 18 #[.int .u64 x, .int .u64 y, .int .u64 0]).run Try.prog w =
    .ok (.value (.tuple #[.int .u64 (((x + y) % 18446744073709551616 : Nat) : Int), .int .u64 (((x + y) / 18446744073709551616 : Nat) : Int)])) w := Any7.bits_Add64 Try.lays7n25 x y 0 (by omega) w

theorem sum_bd : ∀ (xs : List Int), (∀ x ∈ xs, i64 x) → -(xs.length : Int) * 9223372036854775808 ≤ xs.sum ∧ xs.sum ≤ (xs.length : Int) * 9223372036854775808
  | [], _ => by simp
  | x :: r, h => by
    have h1 := sum_bd r fun y hy => h y (List.mem_cons_of_mem _ hy)
    have h2 := h x (List.mem_cons_self ..)
    unfold i64 at h2
    rw [List.sum_cons, List.length_cons]
    push_cast
    omega

theorem sum_take {xs : List Int} {k : Nat} (h : k < xs.length) : (xs.take (k + 1)).sum = (xs.take k).sum + xs.getD k 0 := by
  rw [List.take_succ_eq_append_getElem h, List.sum_append]
  simp [List.getD, h]

/-- The world behind a sum: the mark is set, if it lies beyond an end. -/
def AddW (g : Nat) (S : Int) (w : World) : World := if (addF S).2 then w.setCell ⟨g, 0, none⟩ (.bool true) else w

theorem add_any (g : Nat) (o : Bool) (v : Value) (xs : List Int) (w : World) (h : MarkAt w g o) (hv : IntsAt w v xs) :
    Calls Try.prog 10 #[.pointer (some ⟨g, 0, none⟩), v] w fun e w' => e = .returned (.int .i64 (addF xs.sum).1) ∧ w' = AddW g xs.sum w := by
  obtain ⟨a, c, rfl, hlen, hwf, hcs⟩ := hv
  obtain ⟨n, hn⟩ : ∃ n, n = xs.length := ⟨_, rfl⟩
  rw [← hn] at hlen ⊢
  have HN := Lib.hid hn
  have HW := Lib.hid (fun x hx => i64_of (hwf x hx))
  have HC := Lib.hid hcs
  have HM := Lib.hid h
  clear hn hwf hcs h
  go_enter Try.func10, Try.ntmps10
  go_wp2
  go_loop [5, 6, 15] (fun h l i => ∃ k hi lo : Nat, k ≤ n ∧ i = .int .i64 k ∧ h = .int .u64 hi ∧ l = .int .u64 lo ∧ hi < 18446744073709551616 ∧ lo < 18446744073709551616 ∧ Hid (Two64 (xs.take k).sum hi lo)) (fun _ _ i => n - (intOf i).toNat)
  case atStart => exact ⟨0, 0, 0, Nat.zero_le _, rfl, rfl, rfl, by omega, by omega, Lib.hid ⟨by simp, by simp⟩⟩
  case round =>
    obtain ⟨k, hi, lo, hk, rfl, rfl, rfl, h1, h2, HT⟩ := hrel
    by_cases hlt : k < n
    · have hk2 : k < xs.length := by rw [← HN.out]; exact hlt
      have hst := sum_take hk2
      have hx : i64 (xs.getD k 0) := HW.out _ (by rw [show xs.getD k 0 = xs[k] by simp [List.getD, hk2]]; exact List.getElem_mem hk2)
      have hcell : ∃ b off, a = some ⟨b, off, none⟩ ∧ w.cell? ⟨b, off + k, none⟩ = some (.int .i64 (xs.getD k 0)) := by
        rcases HC.out with h0 | ⟨b, off, e, _, hc⟩
        · rw [h0] at hk2; simp at hk2
        · exact ⟨b, off, e, hc k hk2⟩
      obtain ⟨b, off, rfl, hcell⟩ := hcell
      obtain ⟨x, hxe⟩ : ∃ x, x = xs.getD k 0 := ⟨_, rfl⟩
      rw [← hxe] at hst hx hcell
      obtain ⟨x1, x2⟩ := hx
      obtain ⟨xm, hxm⟩ : ∃ xm : Nat, (xm : Int) = x % 18446744073709551616 := ⟨(x % 18446744073709551616).toNat, by omega⟩
      obtain ⟨sg, hsg⟩ : ∃ sg : Nat, (sg : Int) = (x / 9223372036854775808) % 18446744073709551616 := ⟨((x / 9223372036854775808) % 18446744073709551616).toNat, by omega⟩
      have hstep := two_step HT.out x1 x2 hxm hsg
      rw [← hst] at hstep
      have hc1 : (lo + xm) / 18446744073709551616 ≤ 1 := by omega
      have R1 := Lib.hid (fun W => add64_run0 lo xm W)
      have R2 := Lib.hid (fun W => add64_run hi sg ((lo + xm) / 18446744073709551616) hc1 W)
      have E1 := Lib.hid (show IntKind.u64.wrap x = (xm : Int) by rw [IntKind.wrap_u64, hxm])
      have E2 := Lib.hid (show IntKind.u64.wrap (x / 9223372036854775808) = (sg : Int) by rw [IntKind.wrap_u64, hsg])
      have HS := Lib.hid hstep
      have hlt1 : (hi + sg + (lo + xm) / 18446744073709551616) % 18446744073709551616 < 18446744073709551616 := Nat.mod_lt _ (by omega)
      have hlt2 : (lo + xm) % 18446744073709551616 < 18446744073709551616 := Nat.mod_lt _ (by omega)
      obtain ⟨cy, hcy⟩ : ∃ cy, cy = (lo + xm) / 18446744073709551616 := ⟨_, rfl⟩
      obtain ⟨l2, hl2⟩ : ∃ l2, l2 = (lo + xm) % 18446744073709551616 := ⟨_, rfl⟩
      rw [← hcy] at R1 R2 HS hlt1
      rw [← hl2] at R1 HS hlt2
      obtain ⟨h2', hh2⟩ : ∃ h2', h2' = (hi + sg + cy) % 18446744073709551616 := ⟨_, rfl⟩
      obtain ⟨c2', hc2⟩ : ∃ c2', c2' = (hi + sg + cy) / 18446744073709551616 := ⟨_, rfl⟩
      rw [← hh2] at R2 HS hlt1
      rw [← hc2] at R2
      clear hst hxm hsg hstep hc1 hcy hl2 hh2 hc2 hxe hk2
      have HLT := Lib.hid (And.intro hlt1 hlt2)
      have HX := Lib.hid (And.intro x1 x2)
      clear hlt1 hlt2 x1 x2
      have e1 := E1.out
      have e2 := E2.out
      go_wp2_with (first | simp only [R1.out] | simp only [R2.out])
      go_round
      case rel => exact ⟨k + 1, h2', l2, by omega, by go_num, rfl, rfl, HLT.out.1, HLT.out.2, HS⟩
      case measure => simp [intOf]; omega
    · obtain rfl : k = n := by omega
      have e0 : xs.take k = xs := List.take_of_length_le (by rw [← HN.out]; exact Nat.le_refl _)
      rw [e0] at HT
      have hbd := sum_bd xs HW.out
      rw [← HN.out] at hbd
      have b1 : -170141183460469231731687303715884105728 ≤ xs.sum := by omega
      have b2 : xs.sum ≤ 170141183460469231731687303715884105727 := by omega
      have hlow := two_low HT.out b1 b2
      obtain ⟨s, hs⟩ : ∃ s, s = (if lo < 9223372036854775808 then (lo : Int) else (lo : Int) - 18446744073709551616) := ⟨_, rfl⟩
      have hend := two_end HT.out b1 b2 s hs
      have hws : wrap64 (lo : Int) = s := by rw [hs]; unfold wrap64; split <;> omega
      have hsr : -9223372036854775808 ≤ s ∧ s ≤ 9223372036854775807 := by rw [hs]; split <;> omega
      obtain ⟨s1, s2⟩ := hsr
      obtain ⟨b, hb⟩ : ∃ b : Bool, decide (xs.sum < 0) = b := ⟨_, rfl⟩
      have HB := Lib.hid hb
      have htb : ((hi : Int) / 9223372036854775808 == 1) = b := by
        rw [← hb, Bool.eq_iff_iff]
        simp only [beq_iff_eq, decide_eq_true_eq]
        rw [← hlow]; omega
      obtain ⟨t, ht⟩ : ∃ t, t = (s / 9223372036854775808) % 18446744073709551616 := ⟨_, rfl⟩
      have hwt : IntKind.u64.wrap (s / 9223372036854775808) = t := by rw [IntKind.wrap_u64, ht]
      rw [← ht] at hend
      have hov := over_any g o b w HM.out
      obtain ⟨z, hz⟩ : ∃ z : Int, z = if b then -1152921504606846976 else 1152921504606846976 := ⟨_, rfl⟩
      rw [← hz] at hov
      have HOV := Lib.hid hov
      have HZ := Lib.hid hz
      clear hs hlow hb ht e0 hbd b1 b2 hov hz
      by_cases hin : -1152921504606846976 ≤ xs.sum ∧ xs.sum ≤ 1152921504606846976
      · have hse := hend.2 hin.1 hin.2
        obtain ⟨q1, q2, q3⟩ := hend.1.2 hin
        have HF := Lib.hid (show addF xs.sum = (s, false) by rw [addF, if_pos hin, hse])
        have q2' : decide (-1152921504606846976 ≤ s) = true := by simpa using q2
        have q3' : decide (s ≤ 1152921504606846976) = true := by simpa using q3
        subst q1
        have HH := Lib.hid hwt
        clear hend hin hse q2 q3
        go_wp2
        go_ret
        exact ⟨by rw [HF.out]; rfl, by rw [AddW, HF.out]; rfl⟩
      have HNO := Lib.hid hin
      have hno := fun h1 h2 h3 => hin (hend.1.1 ⟨h1, h2, h3⟩)
      clear hend hin
      by_cases q1 : (hi : Int) = t
      · subst q1
        by_cases q2 : -1152921504606846976 ≤ s
        · have q3 : ¬ s ≤ 1152921504606846976 := fun h => hno rfl q2 h
          have q2' : decide (-1152921504606846976 ≤ s) = true := by simpa using q2
          have q3' : decide (s ≤ 1152921504606846976) = false := by simpa using q3
          clear hno q2 q3
          have HF := Lib.hid (show addF xs.sum = (z, true) by
            rw [addF, if_neg HNO.out, HZ.out, ← HB.out]
            by_cases hs : xs.sum < 0 <;> simp [hs])
          go_wp2_with (go_at_call 19; refine HOV.out.mono ?_; rintro e w' ⟨rfl, rfl⟩)
          go_ret
          exact ⟨by rw [HF.out]; rfl, by rw [AddW, HF.out]; rfl⟩
        · have q2' : decide (-1152921504606846976 ≤ s) = false := by simpa using q2
          clear hno q2
          have HF := Lib.hid (show addF xs.sum = (z, true) by
            rw [addF, if_neg HNO.out, HZ.out, ← HB.out]
            by_cases hs : xs.sum < 0 <;> simp [hs])
          go_wp2_with (go_at_call 19; refine HOV.out.mono ?_; rintro e w' ⟨rfl, rfl⟩)
          go_ret
          exact ⟨by rw [HF.out]; rfl, by rw [AddW, HF.out]; rfl⟩
      · have q1' : ((hi : Int) == t) = false := by simpa using q1
        clear hno q1
        have HF := Lib.hid (show addF xs.sum = (z, true) by
          rw [addF, if_neg HNO.out, HZ.out, ← HB.out]
          by_cases hs : xs.sum < 0 <;> simp [hs])
        go_wp2_with (go_at_call 19; refine HOV.out.mono ?_; rintro e w' ⟨rfl, rfl⟩)
        go_ret
        exact ⟨by rw [HF.out]; rfl, by rw [AddW, HF.out]; rfl⟩

end Go.Proofs.Ytnehamkpeeadjaa
