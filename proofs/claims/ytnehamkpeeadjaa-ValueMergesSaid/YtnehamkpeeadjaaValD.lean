/-
  money: wrong, Worth.
-/
import Derived.Test.YtnehamkpeeadjaaValC
namespace Go.Proofs.Ytnehamkpeeadjaa
open Go.RowKit

/-- Can one not value by these numbers? -/
def wrongB (q p c : Int) : Bool := decide (q < 0) || decide (p < 0) || decide (c < 0) || decide (10000 < c)

theorem wrong_any (q p c : Int) (w : World) : Calls Try.prog 15 #[.int .i64 q, .int .i64 p, .int .i64 c] w fun e w' => e = .returned (.bool (wrongB q p c)) ∧ w = w' := by
  obtain ⟨b1, h1⟩ : ∃ b1, decide (q < 0) = b1 := ⟨_, rfl⟩
  obtain ⟨b2, h2⟩ : ∃ b2, decide (p < 0) = b2 := ⟨_, rfl⟩
  obtain ⟨b3, h3⟩ : ∃ b3, decide (c < 0) = b3 := ⟨_, rfl⟩
  obtain ⟨b4, h4⟩ : ∃ b4, decide (10000 < c) = b4 := ⟨_, rfl⟩
  have he : wrongB q p c = (b1 || b2 || b3 || b4) := by rw [wrongB, h1, h2, h3, h4]
  rw [he]
  clear he
  cases b1 <;> cases b2 <;> cases b3 <;> cases b4
  all_goals
    go_enter Try.func15, Try.ntmps15
    go_wp2
    go_ret
    exact ⟨rfl, rfl⟩

/-- What a quantity is worth, and the error's number. -/
def worthF (q p c : Int) : Int × Int :=
  if wrongB q p c then (0, 1) else if 1152921504606846976 < q * p then (0, 12) else (q * p * (10000 - c) / 10000, 0)

set_option maxRecDepth 100000 in
set_option maxHeartbeats 1000000 in
theorem worth_any (q p c : Int) (w : World) (hq : (Lit.int .i64 q).wf = true) (hp : (Lit.int .i64 p).wf = true) :
    Calls Try.prog 9 #[.int .i64 q, .int .i64 p, .int .i64 c] w fun e w' => e = .returned (.tuple #[.int .i64 (worthF q p c).1, .int .i64 (worthF q p c).2]) ∧ Below w.heap.size w w' := by
  have hq1 : q < 9223372036854775808 := by have := hq; simp [Lit.wf, IntKind.min, IntKind.max, IntKind.signed, IntKind.bits] at this; omega
  have hp1 : p < 9223372036854775808 := by have := hp; simp [Lit.wf, IntKind.min, IntKind.max, IntKind.signed, IntKind.bits] at this; omega
  have HW := Lib.hid (wrong_any q p c)
  cases hb : wrongB q p c with
  | true =>
    have e : worthF q p c = (0, 1) := by rw [worthF, if_pos hb]
    rw [e]
    rw [hb] at HW
    clear hb e hq hp hq1 hp1
    go_enter Try.func9, Try.ntmps9
    go_wp2_with fail
    refine (HW.out _).mono ?_
    rintro e w' ⟨rfl, rfl⟩
    go_wp2
    go_ret2
    exact ⟨rfl, Below.refl _ _⟩
  | false =>
    rw [hb] at HW
    have hb' := hb
    simp [wrongB] at hb'
    obtain ⟨⟨⟨n1, n2⟩, n3⟩, n4⟩ := hb'
    obtain ⟨x, rfl⟩ := Int.eq_ofNat_of_zero_le n1
    obtain ⟨y, rfl⟩ := Int.eq_ofNat_of_zero_le n2
    obtain ⟨k, hk⟩ : ∃ k : Nat, (k : Int) = 10000 - c := ⟨(10000 - c).toNat, by omega⟩
    have hmark : MarkAt (w.alloc (.cells #[.bool false] 34)) w.heap.size false := ⟨by simp, by simp⟩
    have HM := Lib.hid (mul_nat w.heap.size x y _ hmark (by omega) (by omega))
    have HBA := Lib.hid (show Below w.heap.size w (w.alloc (.cells #[.bool false] 34)) from (Below.refl _ _).alloc (Nat.le_refl _) _)
    have hsub : wrap64 (10000 - c) = (k : Int) := by rw [IntWalk.wrap64_in _ (by omega), hk]
    have hk2 : k ≤ 10000 := by omega
    by_cases hle : x * y ≤ 1152921504606846976
    · have hg : ¬ (1152921504606846976 : Int) < (x : Int) * (y : Int) := by rw [← Int.natCast_mul]; omega
      have e : worthF x y c = (((x * y * k / 10000 : Nat) : Int), 0) := by
        rw [worthF, hb, if_neg (by simp), if_neg hg, ← hk]
        simp
      rw [e]
      have HD := Lib.hid (fun W => muldiv_any (x * y) k hle hk2 W)
      have HL := Lib.hid hle
      have hks : (10000 : Int) - c = (k : Int) := hk.symm
      clear hb e hq hp hq1 hp1 hg hle n1 n2 hk2 hk hmark
      go_enter Try.func9, Try.ntmps9
      go_wp2_with fail
      refine (HW.out _).mono ?_
      rintro e w' ⟨rfl, rfl⟩
      go_wp2_with fail
      refine HM.out.mono ?_
      rintro e w' (⟨_, rfl, rfl⟩ | ⟨hgt, _, _⟩)
      · go_wp2_with fail
        first
          | (refine (HD.out _).mono ?_)
          | (rw [hks]; refine (HD.out _).mono ?_)
          | (rw [hsub]; refine (HD.out _).mono ?_)
        rintro e w2 ⟨rfl, hb2⟩
        have HB2 := Lib.hid (HBA.out.trans (hb2.mono (by simp)))
        clear hb2
        go_wp2
        go_ret2
        exact ⟨rfl, HB2.out⟩
      · have := HL.out
        omega
    · have hg : (1152921504606846976 : Int) < (x : Int) * (y : Int) := by rw [← Int.natCast_mul]; omega
      have e : worthF x y c = (0, 12) := by rw [worthF, hb, if_neg (by simp), if_pos hg]
      rw [e]
      have HL := Lib.hid hle
      clear hb e hq hp hq1 hp1 hg hle n1 n2 n3 n4 hk2 hk hmark hsub
      go_enter Try.func9, Try.ntmps9
      go_wp2_with fail
      refine (HW.out _).mono ?_
      rintro e w' ⟨rfl, rfl⟩
      go_wp2_with fail
      refine HM.out.mono ?_
      rintro e w' (⟨hle, _, _⟩ | ⟨_, rfl, rfl⟩)
      · exact absurd hle HL.out
      · go_wp2
        go_ret2
        exact ⟨rfl, (Below.refl _ _).alloc (Nat.le_refl _) _⟩

end Go.Proofs.Ytnehamkpeeadjaa
