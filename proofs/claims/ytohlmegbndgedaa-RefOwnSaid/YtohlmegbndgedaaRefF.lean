/-
  ref: a first call whose answer is fixed; rows that the laws lay; nil data.
-/
import Derived.Test.YtohlmegbndgedaaRefE
namespace Go.Proofs.Ytohlmegbndgedaa
open Go.RowKit Go.Maps Go.WideMaps Held

theorem addP_nil (v : Value) (w : World) : Calls Try.prog 12 #[.pointer none, v] w fun e w' => e = .returned (.int .i64 1) ∧ Below w.heap.size w w' := by
  go_enter Try.func12, Try.ntmps12
  go_wp2
  go_ret
  exact ⟨rfl, by first | exact Below.refl _ _ | exact (Below.refl _ _).alloc (Nat.le_refl _) _⟩
theorem addQ_nil (v : Value) (w : World) : Calls Try.prog 13 #[.pointer none, v] w fun e w' => e = .returned (.int .i64 1) ∧ Below w.heap.size w w' := by
  go_enter Try.func13, Try.ntmps13
  go_wp2
  go_ret
  exact ⟨rfl, by first | exact Below.refl _ _ | exact (Below.refl _ _).alloc (Nat.le_refl _) _⟩
theorem addS_nil (v : Value) (w : World) : Calls Try.prog 9 #[.pointer none, v] w fun e w' => e = .returned (.int .i64 1) ∧ Below w.heap.size w w' := by
  go_enter Try.func9, Try.ntmps9
  go_wp2
  go_ret
  exact ⟨rfl, by first | exact Below.refl _ _ | exact (Below.refl _ _).alloc (Nat.le_refl _) _⟩

theorem i64_small {n : Int} (h0 : 0 ≤ n) (h1 : n ≤ 1000) : i64 n := by unfold i64; omega

theorem pty1 (w : World) (t : TypeId) (b : Nat) (hb : w.heap.size = b) (x : Pty) (hx : x.wf) : PtysAt (w.alloc (.cells #[.string x.name, .int .i64 x.limit] t)) (.slice (some ⟨b, 0, none⟩) 1 1) [x] := by
  subst hb
  refine ⟨_, 1, rfl, by simp, fun y hy => by simp at hy; subst hy; exact hx, .inr ⟨_, 0, rfl, by simp, fun i j hi hj => ?_⟩⟩
  obtain rfl : i = 0 := by simp at hi; omega
  rw [cell_of_row _ _ _ _ t (0, 0) (heap_alloc_new w _)]
  match j, hj with
  | 0, _ => rfl
  | 1, _ => rfl
theorem pty2 (w : World) (t : TypeId) (b : Nat) (hb : w.heap.size = b) (x y : Pty) (hx : x.wf) (hy : y.wf) : PtysAt (w.alloc (.cells #[.string x.name, .int .i64 x.limit, .string y.name, .int .i64 y.limit] t)) (.slice (some ⟨b, 0, none⟩) 2 2) [x, y] := by
  subst hb
  refine ⟨_, 2, rfl, by simp, fun z hz => by simp at hz; rcases hz with rfl | rfl <;> assumption, .inr ⟨_, 0, rfl, by simp, fun i j hi hj => ?_⟩⟩
  have hi2 : i = 0 ∨ i = 1 := by simp at hi; omega
  rw [cell_of_row _ _ _ _ t (0, 0) (heap_alloc_new w _)]
  rcases hi2 with rfl | rfl <;> match j, hj with
  | 0, _ => rfl
  | 1, _ => rfl
theorem acc2 (w : World) (t : TypeId) (b : Nat) (hb : w.heap.size = b) (x y : Acc) (hx : x.wf) (hy : y.wf) : AccsAt (w.alloc (.cells #[.string x.name, .string x.party, .string y.name, .string y.party] t)) (.slice (some ⟨b, 0, none⟩) 2 2) [x, y] := by
  subst hb
  refine ⟨_, 2, rfl, by simp, fun z hz => by simp at hz; rcases hz with rfl | rfl <;> assumption, .inr ⟨_, 0, rfl, by simp, fun i j hi hj => ?_⟩⟩
  have hi2 : i = 0 ∨ i = 1 := by simp at hi; omega
  rw [cell_of_row _ _ _ _ t (0, 0) (heap_alloc_new w _)]
  rcases hi2 with rfl | rfl <;> match j, hj with
  | 0, _ => rfl
  | 1, _ => rfl

def pP : Pty := ⟨⟨#[80]⟩, 10⟩
def qA : Acc := ⟨⟨#[65]⟩, ⟨#[80]⟩⟩
def datP : DH := putV dat0.p ⟨#[80]⟩ (Pty.val pP)
theorem alive_p : addL Pty.name Pty.val aheadP behindP 20 dat0.p dat0.p [pP] = (datP, 0) := by kernel_rfl
theorem alive_q : addL Acc.name Acc.val (aheadQ datP) behindQ 20 dat0.a dat0.a [qA, qA] = (dat0.a, 8) := by kernel_rfl
theorem alive_a : hasV dat0.a ⟨#[65]⟩ = false := by kernel_rfl
theorem alive_a2 : getQ dat0.a ⟨#[65]⟩ = ⟨⟨#[]⟩, ⟨#[]⟩⟩ := by kernel_rfl
theorem alive_b : getP datP bank = ⟨bank, 0⟩ ∧ hasV datP bank = true := by constructor <;> kernel_rfl
theorem alive_n : (rowsP datP).length = 2 := by
  rw [rowsP, List.length_map, keysV_length]
  kernel_rfl
theorem alive_k : ∀ s, hasV datP s = true → s.size ≤ maxLen := fun s h => by
  have hk : TextKeys dat0.p := textKeys_none.put _ _
  rcases (hasV_put hk.isMap _ s _).1 h with rfl | h
  · decide
  · rcases (hasV_put textKeys_none.isMap _ s _).1 h with rfl | h
    · decide
    · rw [hasV_none] at h; cases h

set_option maxRecDepth 100000 in
set_option maxHeartbeats 1600000 in
theorem alive_any (w : World) : Calls Try.prog 7 #[] w fun e w' => e = .returned (.bool true) ∧ Below w.heap.size w w' := by
  have HP := Lib.hid alive_p
  have HQ := Lib.hid alive_q
  go_enter Try.func7, Try.ntmps7
  go_wp2_with fail
  refine (new_any _).mono ?_
  rintro e w1 ⟨R, g, rfl, hr⟩
  have HR := Lib.hid hr
  clear hr
  go_wp2_with fail
  refine (addP_in _ [pP] (HR.out.step ((Below.refl _ _).alloc (Nat.le_refl _) _)) (pty1 _ _ _ rfl pP ⟨by decide, i64_small (by decide) (by decide)⟩)).mono ?_
  rintro e w2 ⟨he, hr⟩
  rw [HP.out] at he hr
  subst he
  have HR2 := Lib.hid hr
  clear hr
  go_wp2_with fail
  refine (addQ_in _ [qA, qA] (HR2.out.step ((Below.refl _ _).alloc (Nat.le_refl _) _)) (acc2 _ _ _ rfl qA qA ⟨by decide, by decide⟩ ⟨by decide, by decide⟩)).mono ?_
  rintro e w3 ⟨he, hr⟩
  rw [HQ.out] at he hr
  subst he
  have HR3 := Lib.hid hr
  clear hr
  go_wp2_with fail
  refine (getQ_in ⟨#[65]⟩ HR3.out (by decide)).mono ?_
  rintro e w4 ⟨he, hr⟩
  rw [alive_a, alive_a2] at he
  simp only [Acc.val] at he
  subst he
  have HR4 := Lib.hid hr
  clear hr
  go_wp2_with fail
  refine (getP_in bank (HR4.out.step ((Below.refl _ _).alloc (Nat.le_refl _) _)) (by decide)).mono ?_
  rintro e w5 ⟨he, hr⟩
  have e1 : getP datP bank = ⟨bank, 0⟩ := alive_b.1
  have e2 : hasV datP bank = true := alive_b.2
  change e = .returned (.tuple #[(getP datP bank).val, .bool (hasV datP bank)]) at he
  rw [e1, e2] at he
  simp only [Pty.val, bank] at he
  subst he
  have hr5 := hr.step ((Below.refl w5.heap.size w5).alloc (Nat.le_refl _) (.cells #[.string bank, .int .i64 0] 37))
  have HR5 := Lib.hid hr5
  obtain ⟨p, q, r, h5, _⟩ := hr5.ex
  have c0 := h5.c0
  have hcal := h5.cal
  have HCAL := Lib.hid hcal
  clear hr hr5 h5 hcal e1 e2
  simp only [bank] at c0 ⊢
  go_wp2_with fail
  refine (is4_any _ _ HCAL.out).mono ?_
  rintro e w6 ⟨rfl, hb6⟩
  have hr6 := HR5.out.step hb6
  have HR6 := Lib.hid hr6
  obtain ⟨p6, q6, r6, h6, _⟩ := hr6.ex
  have c6 := h6.c0
  clear h6 hr6 hb6
  go_wp2_with fail
  refine (is5_any _ _).mono ?_
  rintro e w7 ⟨rfl, rfl⟩
  obtain ⟨p7, q7, r7, h7, _⟩ := HR6.out.ex
  have HA := Lib.hid (allP_any w6 h7 alive_k)
  clear h7
  go_wp2_with fail
  refine HA.out.mono ?_
  rintro e w8 ⟨v, rfl, ho, hb8⟩
  have HB8 := Lib.hid (HR6.out.step hb8).bel
  obtain ⟨g8, cap8, rfl, _⟩ := row_cell ho (by rw [alive_n]; decide)
  rw [alive_n]
  clear ho hb8
  go_wp2
  go_ret
  exact ⟨rfl, HB8.out⟩

end Go.Proofs.Ytohlmegbndgedaa
