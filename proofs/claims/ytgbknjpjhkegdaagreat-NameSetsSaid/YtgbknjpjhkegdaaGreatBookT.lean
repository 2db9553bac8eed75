/-
  The Book: the name of a mark.
-/
import Derived.Test.YtgbknjpjhkegdaaGreatBookE
import Derived.Test.YtgbknjpjhkegdaaGreatOpen
import Derived.Lib.Hide
import Derived.IntWalk
namespace Go.Proofs.YtgbknjpjhkegdaaGreat
open Go.RowKit

def bname (i k : Nat) : ByteArray := strOfNums [109, ((65 + i % 26 : Nat) : Int), ((65 + i / 26 % 26 : Nat) : Int), ((48 + k % 10 : Nat) : Int), ((48 + k / 10 % 10 : Nat) : Int), ((48 + k / 100 % 10 : Nat) : Int)]

set_option maxHeartbeats 1600000 in
theorem bname_any (i k : Nat) (w : World) (hi : i ≤ 1000) (hk : k ≤ 1000000) : Calls Tryz.prog 142 #[.int .i64 i, .int .i64 k] w fun e w' => e = .returned (.string (bname i k)) ∧ Below w.heap.size w w' := by
  have key : ∀ (a b c d e : Int), (0 ≤ a ∧ a ≤ 255) → (0 ≤ b ∧ b ≤ 255) → (0 ≤ c ∧ c ≤ 255) → (0 ≤ d ∧ d ≤ 255) → (0 ≤ e ∧ e ≤ 255) → ∀ W : World, (convert 196 9 (.slice (some ⟨W.heap.size, 0, none⟩) 6 6)).run Tryz.prog (W.alloc (.cells #[.int .u8 109, .int .u8 a, .int .u8 b, .int .u8 c, .int .u8 d, .int .u8 e] 5)) = .ok (.string (strOfNums [109, a, b, c, d, e])) (W.alloc (.cells #[.int .u8 109, .int .u8 a, .int .u8 b, .int .u8 c, .int .u8 d, .int .u8 e] 5)) := fun a b c d e _ _ _ _ _ W =>
    run_convert_bytes_arg _ 196 5 Tryz.underlying196 Tryz.underlying5 W.heap.size 0 6 6 [109, a, b, c, d, e] rfl (fun j hj => by
      have : j = 0 ∨ j = 1 ∨ j = 2 ∨ j = 3 ∨ j = 4 ∨ j = 5 := by omega
      rcases this with rfl | rfl | rfl | rfl | rfl | rfl <;> simp) 9 Tryz.underlying9
  have r1 : (i : Int).tmod 26 = ((i % 26 : Nat) : Int) := by rw [Int.tmod_eq_emod_of_nonneg (by omega)]; omega
  have q1 : (i : Int).tdiv 26 = ((i / 26 : Nat) : Int) := by rw [Int.tdiv_eq_ediv_of_nonneg (by omega)]; omega
  have r2 : ((i / 26 : Nat) : Int).tmod 26 = ((i / 26 % 26 : Nat) : Int) := by rw [Int.tmod_eq_emod_of_nonneg (by omega)]; omega
  have r3 : (k : Int).tmod 10 = ((k % 10 : Nat) : Int) := by rw [Int.tmod_eq_emod_of_nonneg (by omega)]; omega
  have q4 : (k : Int).tdiv 10 = ((k / 10 : Nat) : Int) := by rw [Int.tdiv_eq_ediv_of_nonneg (by omega)]; omega
  have r4 : ((k / 10 : Nat) : Int).tmod 10 = ((k / 10 % 10 : Nat) : Int) := by rw [Int.tmod_eq_emod_of_nonneg (by omega)]; omega
  have q5 : (k : Int).tdiv 100 = ((k / 100 : Nat) : Int) := by rw [Int.tdiv_eq_ediv_of_nonneg (by omega)]; omega
  have r5 : ((k / 100 : Nat) : Int).tmod 10 = ((k / 100 % 10 : Nat) : Int) := by rw [Int.tmod_eq_emod_of_nonneg (by omega)]; omega
  obtain ⟨Q1, hQ1⟩ : ∃ x, x = i / 26 := ⟨_, rfl⟩
  obtain ⟨Q4, hQ4⟩ : ∃ x, x = k / 10 := ⟨_, rfl⟩
  obtain ⟨Q5, hQ5⟩ : ∃ x, x = k / 100 := ⟨_, rfl⟩
  rw [← hQ1] at q1 r2
  rw [← hQ4] at q4 r4
  rw [← hQ5] at q5 r5
  obtain ⟨R1, hR1⟩ : ∃ x, x = i % 26 := ⟨_, rfl⟩
  obtain ⟨R2, hR2⟩ : ∃ x, x = Q1 % 26 := ⟨_, rfl⟩
  obtain ⟨R3, hR3⟩ : ∃ x, x = k % 10 := ⟨_, rfl⟩
  obtain ⟨R4, hR4⟩ : ∃ x, x = Q4 % 10 := ⟨_, rfl⟩
  obtain ⟨R5, hR5⟩ : ∃ x, x = Q5 % 10 := ⟨_, rfl⟩
  rw [← hR1] at r1
  rw [← hR2] at r2
  rw [← hR3] at r3
  rw [← hR4] at r4
  rw [← hR5] at r5
  have b1 : R1 ≤ 25 := by omega
  have b2 : R2 ≤ 25 := by omega
  have b3 : R3 ≤ 9 := by omega
  have b4 : R4 ≤ 9 := by omega
  have b5 : R5 ≤ 9 := by omega
  have bq1 : Q1 ≤ 1000 := by omega
  have bq4 : Q4 ≤ 1000000 := by omega
  have bq5 : Q5 ≤ 1000000 := by omega
  have HN := Lib.hid (show bname i k = strOfNums [109, 65 + (R1 : Int), 65 + (R2 : Int), 48 + (R3 : Int), 48 + (R4 : Int), 48 + (R5 : Int)] by
    rw [bname, ← hQ1, ← hQ4, ← hQ5, ← hR1, ← hR2, ← hR3, ← hR4, ← hR5]
    simp only [Int.natCast_add]; rfl)
  have hkey := key (65 + (R1 : Int)) (65 + (R2 : Int)) (48 + (R3 : Int)) (48 + (R4 : Int)) (48 + (R5 : Int)) (by omega) (by omega) (by omega) (by omega) (by omega)
  clear key hQ1 hQ4 hQ5 hR1 hR2 hR3 hR4 hR5
  go_enter Tryz.func142, Tryz.ntmps142
  go_wp2
  go_ret
  exact ⟨by rw [HN.out]; rfl, (Below.refl _ _).alloc (Nat.le_refl _) _⟩

end Go.Proofs.YtgbknjpjhkegdaaGreat
