/-
  ref: data of the call's own; New.
-/
import Derived.Test.YtohlmegbndgedaaRefPH
import Derived.Test.YtohlmegbndgedaaRefSH
import Derived.Test.YtohlmegbndgedaaRefQH
namespace Go.Proofs.Ytohlmegbndgedaa
open Go.RowKit Go.Maps Go.WideMaps Held

/-- At block R lie the data d, made behind w0; what lay in w0 lies as it lay. -/
structure RefIn (w0 w : World) (R g : Nat) (d : Dat) : Prop where
  ex : ∃ p q r, RefAt w R g p q r d ∧ ∀ m, (p = some m ∨ q = some m ∨ r = some m) → w0.heap.size ≤ m
  lR : w0.heap.size ≤ R
  bel : Below w0.heap.size w0 w

theorem RefIn.step {w0 w w' : World} {R g : Nat} {d : Dat} (h : RefIn w0 w R g d) (hb : Below w.heap.size w w') : RefIn w0 w' R g d := by
  obtain ⟨⟨p, q, r, h1, h2⟩, h3, h4⟩ := h
  exact ⟨⟨p, q, r, h1.below hb, h2⟩, h3, h4.trans (hb.mono h4.size)⟩

theorem only_below {w0 w w' : World} {R : Nat} (hb : Below w0.heap.size w0 w) (hR : w0.heap.size ≤ R) (ht : Turns (Only R) w w') : Below w0.heap.size w0 w' :=
  ht.below hb (fun k hk e => by have : k = R := e; omega)

theorem addP_in {w0 w : World} {R g : Nat} {d : Dat} (v : Value) (xs : List Pty) (h : RefIn w0 w R g d) (hv : PtysAt w v xs) :
    Calls Try.prog 12 #[.pointer (some ⟨R, 0, none⟩), v] w fun e w' => e = .returned (.int .i64 (addL Pty.name Pty.val aheadP behindP 20 d.p d.p xs).2) ∧ RefIn w0 w' R g ⟨(addL Pty.name Pty.val aheadP behindP 20 d.p d.p xs).1, d.a, d.s⟩ := by
  obtain ⟨⟨p, q, r, h1, h2⟩, h3, h4⟩ := h
  refine (addP_any v xs w h1 hv).mono fun e w' ⟨he, ⟨p', hr, hc⟩, ht⟩ => ⟨he, ⟨p', q, r, hr, fun m hm => ?_⟩, h3, only_below h4 h3 ht⟩
  rcases hm with hm | hm | hm
  · rcases hc with rfl | ⟨m', e', hle⟩
    · exact h2 m (.inl hm)
    · rw [e'] at hm; injection hm with hm; have := h4.size; omega
  · exact h2 m (.inr (.inl hm))
  · exact h2 m (.inr (.inr hm))
theorem addQ_in {w0 w : World} {R g : Nat} {d : Dat} (v : Value) (xs : List Acc) (h : RefIn w0 w R g d) (hv : AccsAt w v xs) :
    Calls Try.prog 13 #[.pointer (some ⟨R, 0, none⟩), v] w fun e w' => e = .returned (.int .i64 (addL Acc.name Acc.val (aheadQ d.p) behindQ 20 d.a d.a xs).2) ∧ RefIn w0 w' R g ⟨d.p, (addL Acc.name Acc.val (aheadQ d.p) behindQ 20 d.a d.a xs).1, d.s⟩ := by
  obtain ⟨⟨p, q, r, h1, h2⟩, h3, h4⟩ := h
  refine (addQ_any v xs w h1 hv).mono fun e w' ⟨he, ⟨p', hr, hc⟩, ht⟩ => ⟨he, ⟨p, p', r, hr, fun m hm => ?_⟩, h3, only_below h4 h3 ht⟩
  rcases hm with hm | hm | hm
  · exact h2 m (.inl hm)
  · rcases hc with rfl | ⟨m', e', hle⟩
    · exact h2 m (.inr (.inl hm))
    · rw [e'] at hm; injection hm with hm; have := h4.size; omega
  · exact h2 m (.inr (.inr hm))
theorem addS_in {w0 w : World} {R g : Nat} {d : Dat} (v : Value) (xs : List Ast) (h : RefIn w0 w R g d) (hv : AstsAt w v xs) :
    Calls Try.prog 9 #[.pointer (some ⟨R, 0, none⟩), v] w fun e w' => e = .returned (.int .i64 (addL Ast.name Ast.val aheadS behindS 12 d.s d.s xs).2) ∧ RefIn w0 w' R g ⟨d.p, d.a, (addL Ast.name Ast.val aheadS behindS 12 d.s d.s xs).1⟩ := by
  obtain ⟨⟨p, q, r, h1, h2⟩, h3, h4⟩ := h
  refine (addS_any v xs w h1 hv).mono fun e w' ⟨he, ⟨p', hr, hc⟩, ht⟩ => ⟨he, ⟨p, q, p', hr, fun m hm => ?_⟩, h3, only_below h4 h3 ht⟩
  rcases hm with hm | hm | hm
  · exact h2 m (.inl hm)
  · exact h2 m (.inr (.inl hm))
  · rcases hc with rfl | ⟨m', e', hle⟩
    · exact h2 m (.inr (.inr hm))
    · rw [e'] at hm; injection hm with hm; have := h4.size; omega

theorem getP_in {w0 w : World} {R g : Nat} {d : Dat} (s : ByteArray) (h : RefIn w0 w R g d) (hs : s.size ≤ maxLen) :
    Calls Try.prog 21 #[.pointer (some ⟨R, 0, none⟩), .string s] w fun e w' => e = .returned (.tuple #[(getP d.p s).val, .bool (hasV d.p s)]) ∧ RefIn w0 w' R g d := by
  obtain ⟨p, q, r, h1, _⟩ := h.ex
  exact (getP_any s w h1 hs).mono fun e w' ⟨he, hb⟩ => ⟨he, h.step hb⟩
theorem getQ_in {w0 w : World} {R g : Nat} {d : Dat} (s : ByteArray) (h : RefIn w0 w R g d) (hs : s.size ≤ maxLen) :
    Calls Try.prog 22 #[.pointer (some ⟨R, 0, none⟩), .string s] w fun e w' => e = .returned (.tuple #[(getQ d.a s).val, .bool (hasV d.a s)]) ∧ RefIn w0 w' R g d := by
  obtain ⟨p, q, r, h1, _⟩ := h.ex
  exact (getQ_any s w h1 hs).mono fun e w' ⟨he, hb⟩ => ⟨he, h.step hb⟩
theorem getS_in {w0 w : World} {R g : Nat} {d : Dat} (s : ByteArray) (h : RefIn w0 w R g d) (hs : s.size ≤ maxLen) :
    Calls Try.prog 20 #[.pointer (some ⟨R, 0, none⟩), .string s] w fun e w' => e = .returned (.tuple #[(getS d.s s).val, .bool (hasV d.s s)]) ∧ RefIn w0 w' R g d := by
  obtain ⟨p, q, r, h1, _⟩ := h.ex
  exact (getS_any s w h1 hs).mono fun e w' ⟨he, hb⟩ => ⟨he, h.step hb⟩

def bank : ByteArray := ⟨#[66, 65, 78, 75]⟩
/-- The data at their start. -/
def dat0 : Dat := ⟨putV (.map []) bank (Pty.val ⟨bank, 0⟩), putV (.map []) bank (Acc.val ⟨bank, bank⟩), .map []⟩

set_option maxRecDepth 100000 in
set_option maxHeartbeats 1600000 in
theorem new_any (w : World) : Calls Try.prog 8 #[.pointer none] w fun e w' => ∃ R g, e = .returned (.pointer (some ⟨R, 0, none⟩)) ∧ RefIn w w' R g dat0 := by
  have hmm := @run_makeMap Try.prog
  go_enter Try.func8, Try.ntmps8
  go_wp2_with fail
  refine (calNew_any w).mono ?_
  rintro e w1 ⟨rfl, hc1, hb1⟩
  have hlt1 : w.heap.size < w1.heap.size := hc1.1
  have hm1 := mapH_made (P := Try.prog) (K := 9) w1
  obtain ⟨w2, hu2, hm2, hg2⟩ := hm1.put Try.underlying9 Try.underlying57 (by decide) (s := bank) (by decide) (Pty.val ⟨bank, 0⟩)
  have hm3 := mapH_made (P := Try.prog) (K := 9) w2
  obtain ⟨w4, hu4, hm4, hg4⟩ := hm3.put Try.underlying9 Try.underlying58 (by decide) (s := bank) (by decide) (Acc.val ⟨bank, bank⟩)
  have hb2 : Below w1.heap.size w1 w2 := ((Below.refl _ w1).alloc (Nat.le_refl _) _).grown hg2 (by simp) (fun k hk => by injection hk with hk; omega)
  have hs2 : w1.heap.size < w2.heap.size := hm2.lt
  have hb4 : Below w2.heap.size w2 w4 := ((Below.refl _ w2).alloc (Nat.le_refl _) _).grown hg4 (by simp) (fun k hk => by injection hk with hk; omega)
  have hs4 : w2.heap.size < w4.heap.size := hm4.lt
  have HRF : Hid (∀ W, Below w4.heap.size w4 W → ∀ R, W.heap[R]? = some (.cells #[.pointer (some ⟨w.heap.size, 0, none⟩), .map (some w1.heap.size), .map (some w2.heap.size), .map none] 61 (0, 0)) → w4.heap.size ≤ R → RefIn w W R w.heap.size dat0) := Lib.hid (fun W hW R hR hle => by
    have c := fun j => cell_of_row W R j _ _ _ hR
    have f : ∀ j, W.frozen? ⟨R, j, none⟩ = false := fun j => by simp [World.frozen?, hR]
    have hW1 : Below w1.heap.size w1 W := (hb2.trans (hb4.mono hb2.size)).trans (hW.mono (by omega))
    have hcal := hc1.below hW1
    have hcg : W.cell? ⟨w.heap.size, 0, none⟩ = w1.cell? ⟨w.heap.size, 0, none⟩ := hW1.cell (p := ⟨w.heap.size, 0, none⟩) hlt1
    refine ⟨⟨some w1.heap.size, some w2.heap.size, none, ⟨(Array.getElem?_eq_some_iff.1 hR).1, f, c 0, c 1, c 2, c 3, hcal, .inr ⟨_, rfl, (hm2.below hb4).below hW⟩, .inr ⟨_, rfl, hm4.below hW⟩, .inl ⟨rfl, rfl⟩, (typed_none _).put textKeys_none _ _, (typed_none _).put textKeys_none _ _, typed_none _, by decide, by omega, ?_, ?_, ?_, fun m e => by cases e⟩, ?_⟩, by omega, hb1.trans (hW1.mono hb1.size)⟩
    · rw [hcg]; intro m e; have := hc1.mlt e; omega
    · rw [hcg]
      intro m e
      injection e with e
      subst e
      exact ⟨by omega, by omega, fun k hk => by have := hc1.mlt hk; omega, fun e => by injection e with e; omega, fun e => by cases e⟩
    · rw [hcg]
      intro m e
      injection e with e
      subst e
      exact ⟨by omega, by omega, fun k hk => by have := hc1.mlt hk; omega, fun e => by injection e with e; omega, fun e => by cases e⟩
    · rintro m (e | e | e)
      · injection e with e; omega
      · injection e with e; omega
      · cases e)
  simp only [Pty.val, Acc.val, bank] at hu2 hu4
  clear hc1 hb1 hm1 hm2 hm3 hm4 hg2 hg4 hb2 hb4
  go_wp2
  go_ret
  exact ⟨w4.heap.size, w.heap.size, rfl, HRF.out _ ((Below.refl _ _).alloc (Nat.le_refl _) _) _ (heap_alloc_new _ _) (Nat.le_refl _)⟩

end Go.Proofs.Ytohlmegbndgedaa
