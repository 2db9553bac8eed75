/-
  money: MulDiv by ten thousand, wrong, Worth.
-/
import Derived.Test.YtnehamkpeeadjaaValB
namespace Go.Proofs.Ytnehamkpeeadjaa
open Go.RowKit

theorem div_any (hi lo : Nat) (h1 : hi < 10000) (h : lo < 18446744073709551616) (w : World) :
    Calls Try.prog 26 #[.int .u64 hi, .int .u64 lo, .int .u64 10000] w fun e w' => ∃ r, e = .returned (.tuple #[.int .u64 (((hi * 18446744073709551616 + lo) / 10000 : Nat) : Int), r]) ∧ Below w.heap.size w w' := by
  by_cases h0 : hi = 0
  · subst h0
    rw [Nat.zero_mul, Nat.zero_add]
    exact div_zero lo h w
  · exact div_some hi lo h0 h1 h w

set_option maxRecDepth 100000 in
set_option maxHeartbeats 1000000 in
theorem muldiv_any (n k : Nat) (hn : n ≤ 1152921504606846976) (hk : k ≤ 10000) (w : World) :
    Calls Try.prog 17 #[.int .i64 n, .int .i64 k, .int .i64 10000] w fun e w' => e = .returned (.tuple #[.int .i64 ((n * k / 10000 : Nat) : Int), .int .i64 0]) ∧ Below w.heap.size w w' := by
  have hp : n * k ≤ 1152921504606846976 * 10000 := Nat.mul_le_mul hn hk
  have hm := mul64_any n k (by omega) (by omega) w
  obtain ⟨p, hpe⟩ : ∃ p, p = n * k := ⟨_, rfl⟩
  rw [← hpe] at hm hp ⊢
  have hhi : p / 18446744073709551616 < 10000 := by omega
  have hd := div_any (p / 18446744073709551616) (p % 18446744073709551616) hhi (Nat.mod_lt _ (by omega)) w
  have e1 : p / 18446744073709551616 * 18446744073709551616 + p % 18446744073709551616 = p := by omega
  rw [e1] at hd
  have hq : p / 10000 ≤ 1152921504606846976 := by omega
  obtain ⟨q, hqe⟩ : ∃ q, q = p / 10000 := ⟨_, rfl⟩
  rw [← hqe] at hd hq ⊢
  obtain ⟨hi, hhe⟩ : ∃ hi, hi = p / 18446744073709551616 := ⟨_, rfl⟩
  obtain ⟨lo, hlo⟩ : ∃ lo, lo = p % 18446744073709551616 := ⟨_, rfl⟩
  rw [← hhe] at hm hd hhi
  rw [← hlo] at hm hd
  have HM := Lib.hid hm
  have HD := Lib.hid hd
  clear hm hd hpe hp hqe hhe hlo e1
  have hh : ¬ (10000 : Int) ≤ (hi : Int) := by omega
  have HQ := Lib.hid (show decide ((1152921504606846976 : Int) < (q : Int)) = false by simp; omega)
  have HQ3 := Lib.hid hq
  clear hq hhi
  go_enter Try.func17, Try.ntmps17
  go_wp2_with fail
  refine HM.out.mono ?_
  rintro e w' ⟨rfl, rfl⟩
  go_wp2_with fail
  refine HD.out.mono ?_
  rintro e w2 ⟨r, rfl, hb⟩
  have hq2 := HQ.out
  go_wp2
  go_ret2
  refine ⟨?_, hb⟩
  have hq3 := HQ3.out
  have e : wrap64 (q : Int) = (q : Int) := by unfold wrap64; omega
  simp [e]

end Go.Proofs.Ytnehamkpeeadjaa
