/-
  money: Need.
-/
import Derived.Test.YtnehamkpeeadjaaValD
namespace Go.Proofs.Ytnehamkpeeadjaa
open Go.RowKit

def mostF (p : Int) : Int := if 0 < p then 1152921504606846976 / p else 1152921504606846976

theorem most_bd (p : Int) : 0 ≤ mostF p ∧ mostF p ≤ 1152921504606846976 := by
  unfold mostF
  split
  · exact ⟨Int.ediv_nonneg (by omega) (by omega), Int.ediv_le_self _ (by omega)⟩
  · omega

theorem most_mul {p k : Int} (hp : 0 ≤ p) (_ : 0 ≤ k) (hk : k ≤ mostF p) : k * p ≤ 1152921504606846976 := by
  unfold mostF at hk
  split at hk
  · exact Int.le_trans (Int.mul_le_mul_of_nonneg_right hk hp) (Int.ediv_mul_le _ (by omega))
  · obtain rfl : p = 0 := by omega
    omega

theorem worth_mono {p c k n : Int} (hp : 0 ≤ p) (hc : 0 ≤ c) (hc2 : c ≤ 10000) (h0 : 0 ≤ k) (hk : k ≤ n) (hn : n ≤ mostF p) : (worthF k p c).1 ≤ (worthF n p c).1 := by
  have e : ∀ j, 0 ≤ j → j ≤ mostF p → worthF j p c = (j * p * (10000 - c) / 10000, 0) := fun j hj hj2 => by
    have h1 := most_mul hp hj hj2
    have h2 : wrongB j p c = false := by simp [wrongB]; omega
    rw [worthF, h2, if_neg (by simp), if_neg (by omega)]
  rw [e k h0 (by omega), e n (by omega) hn]
  exact Int.ediv_le_ediv (by omega) (Int.mul_le_mul_of_nonneg_right (Int.mul_le_mul_of_nonneg_right hk hp) (by omega))

/-- The search's state: all below lo are worth too little, and hi is worth enough, if it is no more than there may be. -/
def Seek (v p c lo hi : Int) : Prop := 0 ≤ lo ∧ lo ≤ hi ∧ hi ≤ mostF p + 1 ∧ (∀ k, 0 ≤ k → k < lo → (worthF k p c).1 < v) ∧ (hi ≤ mostF p → v ≤ (worthF hi p c).1)

/-- What Need tells. -/
def NeedIs (v p c n e : Int) : Prop :=
  (wrongB v p c = true ∧ n = 0 ∧ e = 1) ∨ (wrongB v p c = false ∧ e = 0 ∧ 0 ≤ n ∧ n ≤ mostF p ∧ v ≤ (worthF n p c).1 ∧ ∀ k, 0 ≤ k → k < n → (worthF k p c).1 < v) ∨
  (wrongB v p c = false ∧ e = 32 ∧ n = 0 ∧ ∀ k, 0 ≤ k → k ≤ mostF p → (worthF k p c).1 < v)

theorem seek_low {v p c lo hi m : Int} (hp : 0 ≤ p) (hc : 0 ≤ c) (hc2 : c ≤ 10000) (h : Seek v p c lo hi) (h1 : lo ≤ m) (h2 : m < hi) (hw : (worthF m p c).1 < v) : Seek v p c (m + 1) hi := by
  obtain ⟨a1, a2, a3, a4, a5⟩ := h
  exact ⟨by omega, by omega, a3, fun k hk hk2 => Int.lt_of_le_of_lt (worth_mono hp hc hc2 hk (by omega) (by omega)) hw, a5⟩
theorem seek_high {v p c lo hi m : Int} (h : Seek v p c lo hi) (h1 : lo ≤ m) (h2 : m < hi) (hw : v ≤ (worthF m p c).1) : Seek v p c lo m := by
  obtain ⟨a1, a2, a3, a4, a5⟩ := h
  exact ⟨a1, h1, by omega, a4, fun _ => hw⟩
theorem seek_start (v p c : Int) : Seek v p c 0 (mostF p + 1) :=
  ⟨Int.le_refl _, by have := most_bd p; omega, Int.le_refl _, fun k h1 h2 => by omega, fun h => by omega⟩

end Go.Proofs.Ytnehamkpeeadjaa
