/-
  math/bits.Div64 by ten thousand.
-/
import Derived.Test.YtnehamkpeeadjaaValA
import Derived.Deep.QuietTactic
import Derived.Deep.DeepCutAuto
import Derived.BigQuiet
namespace Go.Proofs.Ytnehamkpeeadjaa
open Go.RowKit

set_option maxRecDepth 100000 in
theorem lead_any (w : World) : Calls Try.prog 30 #[.int .u64 10000] w fun e w' => e = .returned (.int .i64 50) ∧ w = w' := by
  go_enter Try.func30, Try.ntmps30
  go_wp2
  go_ret
  exact ⟨by kernel_rfl, rfl⟩

theorem div_zero (lo : Nat) (h : lo < 18446744073709551616) (w : World) :
    Calls Try.prog 26 #[.int .u64 0, .int .u64 lo, .int .u64 10000] w fun e w' => ∃ r, e = .returned (.tuple #[.int .u64 ((lo / 10000 : Nat) : Int), r]) ∧ Below w.heap.size w w' := by
  go_enter Try.func26, Try.ntmps26
  go_wp2_with fail
  go_quiet (fail)
  go_wp2
  go_ret2
  exact ⟨_, rfl, below_drewN (Below.refl _ _) _⟩

/-! The school's division, in numbers. -/
theorem d1 {hi lo U V1 : Nat} (hU : U = hi * 1125899906842624 + lo / 16384) (hV : V1 = lo % 16384 * 262144) : U * 4294967296 + V1 = 262144 * (hi * 18446744073709551616 + lo) := by omega
theorem d2 {U Q1 R T V1 N : Nat} (hN : U * 4294967296 + V1 = 262144 * N) (hQ : Q1 = U / 2621440000) (hR : R = U % 2621440000) (hT : T = R * 4294967296 + V1) : T + Q1 * 11258999068426240000 = 262144 * N := by omega
theorem d3 {Q1 T Q0 N : Nat} (hT2 : T + Q1 * 11258999068426240000 = 262144 * N) (hQ0 : Q0 = T / 2621440000) : Q1 * 4294967296 + Q0 = N / 10000 := by omega
theorem d4 {hi lo U : Nat} (h1 : hi < 10000) (hlo : lo < 18446744073709551616) (hU : U = hi * 1125899906842624 + lo / 16384) : U < 11258999068426240000 := by omega
theorem d5 {U Q1 : Nat} (b6 : U < 11258999068426240000) (hQ : Q1 = U / 2621440000) : Q1 < 4294967296 := by omega
theorem d6 {R V1 T : Nat} (hR : R < 2621440000) (hV : V1 < 4294967296) (hT : T = R * 4294967296 + V1) : T < 11258999068426240000 := by omega
theorem w0 : bits .and .u64 11258999068426240000 4294967295 = 0 := by decide +kernel
theorem w1 (lo : Nat) : IntKind.u64.wrap ((lo : Int) * 1125899906842624) = ((lo % 16384 * 1125899906842624 : Nat) : Int) := by rw [IntKind.wrap_u64]; omega
theorem w2 {lo V1 : Nat} (hV : V1 = lo % 16384 * 262144) : ((lo % 16384 * 1125899906842624 : Nat) : Int) / 4294967296 = (V1 : Int) := by rw [hV]; omega
theorem w3 (lo : Nat) : bits .and .u64 ((lo % 16384 * 1125899906842624 : Nat) : Int) 4294967295 = 0 := by rw [Mul64.maskN _ (by omega)]; omega
theorem w4 {U Q1 : Nat} (b6 : U < 11258999068426240000) (hQ : Q1 = U / 2621440000) : IntKind.u64.wrap ((U : Int).tdiv 2621440000) = (Q1 : Int) := by rw [Int.tdiv_eq_ediv_of_nonneg (by omega), IntKind.wrap_u64, hQ]; omega
theorem w5 {U Q1 R : Nat} (hQ : Q1 = U / 2621440000) (hR : R = U % 2621440000) : IntKind.u64.wrap ((U : Int) - IntKind.u64.wrap ((Q1 : Int) * 2621440000)) = (R : Int) := by simp only [IntKind.wrap_u64]; omega
theorem w6 (hi lo : Nat) (h1 : hi < 10000) (hlo : lo < 18446744073709551616) : bits .or .u64 ((hi : Int) * 1125899906842624) ((lo : Int) / 16384) = ((hi * 1125899906842624 + lo / 16384 : Nat) : Int) := by
  have h := bits_or_u64_nat (hi * 1125899906842624) (lo / 16384) (by omega) (by omega)
  have e := Nat.two_pow_add_eq_or_of_lt (i := 50) (b := lo / 16384) (by omega) hi
  rw [show 2 ^ 50 = 1125899906842624 from rfl, Nat.mul_comm] at e
  rw [← e] at h
  exact h

theorem w7 {U V1 Q1 R T : Nat} (hQ : Q1 = U / 2621440000) (hR : R = U % 2621440000) (hT : T = R * 4294967296 + V1) (b5 : T < 11258999068426240000) : IntKind.u64.wrap (IntKind.u64.wrap (IntKind.u64.wrap ((U : Int) * 4294967296) + (V1 : Int)) - IntKind.u64.wrap ((Q1 : Int) * 11258999068426240000)) = (T : Int) := by simp only [IntKind.wrap_u64]; omega
theorem wneg (x : Int) : ¬ IntKind.u64.wrap x < 0 := by rw [IntKind.wrap_u64]; omega
theorem w8 {Q1 Q0 N : Nat} (b1 : Q1 < 4294967296) (b2 : Q0 < 4294967296) (h : Q1 * 4294967296 + Q0 = N) : IntKind.u64.wrap (IntKind.u64.wrap ((Q1 : Int) * 4294967296) + (Q0 : Int)) = (N : Int) := by simp only [IntKind.wrap_u64]; omega

set_option maxRecDepth 100000 in
set_option maxHeartbeats 1600000 in
theorem div_some (hi lo : Nat) (h0 : ¬ hi = 0) (h1 : hi < 10000) (h : lo < 18446744073709551616) (w : World) :
    Calls Try.prog 26 #[.int .u64 hi, .int .u64 lo, .int .u64 10000] w fun e w' => ∃ r, e = .returned (.tuple #[.int .u64 (((hi * 18446744073709551616 + lo) / 10000 : Nat) : Int), r]) ∧ Below w.heap.size w w' := by
  have hh : (hi : Int) < 10000 := by omega
  go_enter Try.func26, Try.ntmps26
  go_wp2_with fail
  refine (lead_any _).mono ?_
  rintro e w' ⟨rfl, rfl⟩
  go_wp2_with fail
  obtain ⟨U, hU⟩ : ∃ U, U = hi * 1125899906842624 + lo / 16384 := ⟨_, rfl⟩
  obtain ⟨V1, hV⟩ : ∃ V1, V1 = lo % 16384 * 262144 := ⟨_, rfl⟩
  obtain ⟨Q1, hQ⟩ : ∃ Q1, Q1 = U / 2621440000 := ⟨_, rfl⟩
  obtain ⟨R, hR⟩ : ∃ R, R = U % 2621440000 := ⟨_, rfl⟩
  obtain ⟨T, hT⟩ : ∃ T, T = R * 4294967296 + V1 := ⟨_, rfl⟩
  obtain ⟨Q0, hQ0⟩ : ∃ Q0, Q0 = T / 2621440000 := ⟨_, rfl⟩
  have b6 := d4 h1 h hU
  have b1 := d5 b6 hQ
  have b3 : R < 2621440000 := by rw [hR]; exact Nat.mod_lt _ (by omega)
  have b4 : V1 < 4294967296 := by rw [hV]; omega
  have b5 := d6 b3 b4 hT
  have b2 := d5 b5 hQ0
  have hfin := d3 (d2 (d1 hU hV) hQ hR hT) hQ0
  have e1 := w6 hi lo h1 h
  rw [← hU] at e1
  have e3 := w1 lo
  have e4 := w2 hV
  have e5 := w3 lo
  have e6 := w4 b6 hQ
  have e7 := w5 hQ hR
  have HE8 := Lib.hid (w7 hQ hR hT b5)
  obtain ⟨R2, hR2⟩ : ∃ R2, R2 = T % 2621440000 := ⟨_, rfl⟩
  have HE9 := Lib.hid (w4 b5 hQ0)
  have HE10 := Lib.hid (w5 hQ0 hR2)
  have HE11 := Lib.hid (w8 b1 b2 hfin)
  have HC1 := Lib.hid (show ¬ (4294967296 : Int) ≤ (Q1 : Int) by omega)
  have HC2 := Lib.hid (show ¬ (4294967296 : Int) ≤ (Q0 : Int) by omega)
  clear hU hV hQ hR
  simp only [e1, w0, e3, e4, e5, e6, e7]
  clear b1 b2 b3 b4 b5 b6 hfin e1 e3 e4 e5 e6 e7 hT hQ0 h0 h1 h hh hR2
  go_loopw [15, 16] (fun s t wr => s = .int .u64 Q1 ∧ t = .int .u64 R ∧ wr = w) (fun _ _ _ => 0)
  case atStart => exact ⟨rfl, rfl, rfl⟩
  case round =>
    obtain ⟨rfl, rfl, rfl⟩ := hrel
    have hc1 := HC1.out
    go_wp2_with fail
    clear hc1
    simp only [HE8.out, HE9.out, HE10.out]
    go_loopw [18, 16] (fun s t wr' => s = .int .u64 Q0 ∧ t = .int .u64 R2 ∧ wr' = wr) (fun _ _ _ => 0)
    case atStart => exact ⟨rfl, rfl, rfl⟩
    case round =>
      obtain ⟨rfl, rfl, rfl⟩ := hrel
      have hc2 : decide ((4294967296 : Int) ≤ (Q0 : Int)) = false := decide_eq_false (Int.not_le.2 (by have := HC2.out; omega))
      have hc3 : decide (IntKind.u64.wrap (IntKind.u64.wrap (4294967296 * (R2 : Int))) < 0) = false := decide_eq_false (wneg _)
      go_upto_if 113 with fail
      clear hc2 hc3
      go_wp2
      simp only [HE11.out]
      go_ret2
      exact ⟨_, rfl, Below.refl _ _⟩

end Go.Proofs.Ytnehamkpeeadjaa
