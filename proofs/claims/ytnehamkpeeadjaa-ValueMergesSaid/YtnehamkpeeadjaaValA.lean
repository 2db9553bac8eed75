/-
  money: size, Mul, MulDiv by ten thousand, Worth.
-/
import Derived.Test.YtnehamkpeeadjaaOpen
import Derived.Test.YtnehamkpeeadjaaIterP
import Derived.Shelf.Bits.Mul64
import Derived.WalkKit
import Derived.WalkSpells
import Derived.WalkLawsBesides
import Derived.IntWalk
import Derived.Lib.Hide
import Derived.OwnWalk
namespace Go.Proofs.Ytnehamkpeeadjaa
open Go.RowKit

theorem mul64_any (x y : Nat) (hx : x < 18446744073709551616) (hy : y < 18446744073709551616) (w : World) :
    Calls Try.prog 24 #[.int .u64 x, .int .u64 y] w fun e w' => e = .returned (.tuple #[.int .u64 ((x * y / 18446744073709551616 : Nat) : Int), .int .u64 ((x * y % 18446744073709551616 : Nat) : Int)]) ∧ w' = w :=
  Any.bits_Mul64 Try.lays264 x y hx hy w

theorem size_nat (n : Nat) (hn : n < 9223372036854775808) (w : World) : Calls Try.prog 25 #[.int .i64 n] w fun e w' => e = .returned (.int .u64 n) ∧ w = w' := by
  have h0 : decide ((n : Int) < 0) = false := by simp
  go_enter Try.func25, Try.ntmps25
  go_wp2
  go_ret
  refine ⟨?_, rfl⟩
  first | rfl | (congr 2; rw [IntKind.wrap_u64]; omega)

/-- The account's mark at block g. -/
def MarkAt (w : World) (g : Nat) (o : Bool) : Prop := w.cell? ⟨g, 0, none⟩ = some (.bool o) ∧ w.frozen? ⟨g, 0, none⟩ = false

theorem over_any (g : Nat) (o b : Bool) (w : World) (h : MarkAt w g o) : Calls Try.prog 19 #[.pointer (some ⟨g, 0, none⟩), .bool b] w fun e w' => e = .returned (.int .i64 (if b then -1152921504606846976 else 1152921504606846976)) ∧ w' = w.setCell ⟨g, 0, none⟩ (.bool true) := by
  obtain ⟨h1, h2⟩ := h
  cases b
  all_goals
    go_enter Try.func19, Try.ntmps19
    go_wp2
    go_ret
    exact ⟨rfl, rfl⟩

theorem mul_nat (g : Nat) (x y : Nat) (w : World) (h : MarkAt w g false) (hx : x < 9223372036854775808) (hy : y < 9223372036854775808) :
    Calls Try.prog 16 #[.pointer (some ⟨g, 0, none⟩), .int .i64 x, .int .i64 y] w fun e w' =>
      (x * y ≤ 1152921504606846976 ∧ e = .returned (.int .i64 ((x * y : Nat) : Int)) ∧ w' = w) ∨ (1152921504606846976 < x * y ∧ e = .returned (.int .i64 1152921504606846976) ∧ w' = w.setCell ⟨g, 0, none⟩ (.bool true)) := by
  have hm := mul64_any x y (by omega) (by omega) w
  obtain ⟨p, hp⟩ : ∃ p, p = x * y := ⟨_, rfl⟩
  rw [← hp] at hm ⊢
  have hx0 : decide ((x : Int) < 0) = false := by simp
  have hy0 : decide ((y : Int) < 0) = false := by simp
  have HM := Lib.hid hm
  clear hm hp
  by_cases hle : p ≤ 1152921504606846976
  · have e1 : p / 18446744073709551616 = 0 := by omega
    have e2 : p % 18446744073709551616 = p := by omega
    rw [e1, e2] at HM
    have hz : (((0 : Nat) : Int) == 0) = true := rfl
    have hd : decide ((1152921504606846976 : Int) < (p : Int)) = false := by simp; omega
    go_enter Try.func16, Try.ntmps16
    go_wp2_with fail
    refine (size_nat x hx _).mono ?_; rintro e w' ⟨rfl, rfl⟩
    go_wp2_with fail
    refine (size_nat y hy _).mono ?_; rintro e w' ⟨rfl, rfl⟩
    go_wp2_with fail
    refine HM.out.mono ?_; rintro e w' ⟨rfl, rfl⟩
    go_wp2
    go_ret
    refine .inl ⟨hle, ?_, rfl⟩
    first | rfl | (congr 2; simp only [IntKind.wrap_i64]; omega)
  · have hgt : 1152921504606846976 < p := by omega
    obtain ⟨hi, hhi⟩ : ∃ hi, hi = p / 18446744073709551616 := ⟨_, rfl⟩
    obtain ⟨lo, hlo⟩ : ∃ lo, lo = p % 18446744073709551616 := ⟨_, rfl⟩
    rw [← hhi, ← hlo] at HM
    have hcase : (¬ hi = 0) ∨ (hi = 0 ∧ (1152921504606846976 : Int) < (lo : Int)) := by omega
    clear hhi hlo hle
    rcases hcase with hc | ⟨rfl, hd⟩
    all_goals
      go_enter Try.func16, Try.ntmps16
      go_wp2_with fail
      refine (size_nat x hx _).mono ?_; rintro e w' ⟨rfl, rfl⟩
      go_wp2_with fail
      refine (size_nat y hy _).mono ?_; rintro e w' ⟨rfl, rfl⟩
      go_wp2_with fail
      refine HM.out.mono ?_; rintro e w' ⟨rfl, rfl⟩
      go_wp2_with fail
      refine (over_any g false false _ h).mono ?_; rintro e w' ⟨rfl, rfl⟩
      go_wp2
      go_ret
      exact .inr ⟨hgt, rfl, rfl⟩

end Go.Proofs.Ytnehamkpeeadjaa
