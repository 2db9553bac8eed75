/-
  ref: SetLimit.
-/
import Derived.Test.YtohlmegbndgedaaRefF
namespace Go.Proofs.Ytohlmegbndgedaa
open Go.RowKit Go.Maps Go.WideMaps Held

/-- Why a limit is not set; 0: it is. -/
def limitE (D : DH) (s : ByteArray) (n : Int) : Int := if hasV D s = false then 7 else if inB n 0 1152921504606846976 = false then 1 else 0
def limitD (D : DH) (s : ByteArray) (n : Int) : DH := if limitE D s n = 0 then putV D (getP D s).name (Pty.val ⟨(getP D s).name, n⟩) else D

set_option maxRecDepth 100000 in
set_option maxHeartbeats 1600000 in
theorem limit_in {w0 w : World} {R g : Nat} {d : Dat} (s : ByteArray) (n : Int) (h : RefIn w0 w R g d) (hs : s.size ≤ maxLen) (hn : (getP d.p s).name.size ≤ maxLen) (hsz : Maps.size d.p ≤ 900) :
    Calls Try.prog 19 #[.pointer (some ⟨R, 0, none⟩), .string s, .int .i64 n] w fun e w' => e = .returned (.int .i64 (limitE d.p s n)) ∧ RefIn w0 w' R g ⟨limitD d.p s n, d.a, d.s⟩ := by
  obtain ⟨⟨p, q, r, h1, h2⟩, h3, h4⟩ := h
  have hlk := h1.mp.lookOk Try.underlying57 zeroPtyV hs
  rw [getP_val h1.tp] at hlk
  have c1 := h1.c1
  have HE := Lib.hid (show limitE d.p s n = if hasV d.p s = false then 7 else if inB n 0 1152921504606846976 = false then 1 else 0 from rfl)
  have HD := Lib.hid (show limitD d.p s n = if limitE d.p s n = 0 then putV d.p (getP d.p s).name (Pty.val ⟨(getP d.p s).name, n⟩) else d.p from rfl)
  obtain ⟨x, hx⟩ : ∃ x, x = getP d.p s := ⟨_, rfl⟩
  obtain ⟨D', hD'⟩ : ∃ D', D' = limitD d.p s n := ⟨_, rfl⟩
  obtain ⟨E, hE⟩ : ∃ E, E = limitE d.p s n := ⟨_, rfl⟩
  rw [← hx] at hlk HD hn
  rw [← hE] at HE HD ⊢
  rw [← hD'] at HD ⊢
  have H1 := Lib.hid h1
  have H2 := Lib.hid h2
  have H3 := Lib.hid h3
  have H4 := Lib.hid h4
  have HN := Lib.hid hn
  have HSZ := Lib.hid hsz
  have HIN := Lib.hid (fun W => in_any n 0 1152921504606846976 W)
  have hRlt := h1.lt
  clear hx hD' hE h1 h2 h3 h4 hn hsz
  have HKEEP : Hid (∀ W, Below w.heap.size w W → D' = d.p → RefIn w0 W R g ⟨D', d.a, d.s⟩) := Lib.hid (fun W hW e => by
    rw [e]; exact (RefIn.mk ⟨p, q, r, H1.out, H2.out⟩ H3.out H4.out).step hW)
  cases hh : hasV d.p s with
  | false =>
    have HF := Lib.hid (show E = 7 by rw [HE.out, hh]; rfl)
    have HG := Lib.hid (show D' = d.p by rw [HD.out, HF.out]; rfl)
    rw [hh] at hlk
    clear hh
    simp only [Pty.val] at hlk
    go_enter Try.func19, Try.ntmps19
    go_wp2
    go_ret
    exact ⟨by rw [HF.out]; rfl, HKEEP.out _ ((Below.refl _ _).alloc (Nat.le_refl _) _) HG.out⟩
  | true =>
    rw [hh] at hlk HE
    obtain ⟨nm, li⟩ := x
    simp only at HE HD HN
    have hsm : p ≠ none := fun e => by
      rcases H1.out.mp with ⟨_, h⟩ | ⟨m, h, _⟩
      · rw [h, hasV_none] at hh; cases hh
      · rw [h] at e; cases e
    obtain ⟨m, rfl⟩ : ∃ m, p = some m := by cases p with | none => exact absurd rfl hsm | some m => exact ⟨m, rfl⟩
    have hmh : MapH Try.prog 9 w m d.p := by
      rcases H1.out.mp with ⟨h, _⟩ | ⟨m', h, hm⟩
      · cases h
      · injection h with h; subst h; exact hm
    have HMH := Lib.hid hmh
    clear hh hmh hsm
    simp only [Pty.val] at hlk
    cases hb : inB n 0 1152921504606846976 with
    | false =>
      have HF := Lib.hid (show E = 1 by rw [HE.out, hb]; rfl)
      have HG := Lib.hid (show D' = d.p by rw [HD.out, HF.out]; rfl)
      have HB := Lib.hid hb
      clear hb
      go_enter Try.func19, Try.ntmps19
      go_wp2_with fail
      refine (HIN.out _).mono ?_
      rw [HB.out]
      rintro e w1 ⟨rfl, rfl⟩
      go_wp2
      go_ret
      exact ⟨by rw [HF.out]; rfl, HKEEP.out _ ((Below.refl _ _).alloc (Nat.le_refl _) _) HG.out⟩
    | true =>
      have HB := Lib.hid hb
      have HF := Lib.hid (show E = 0 by rw [HE.out, hb]; rfl)
      have HG := Lib.hid (show D' = putV d.p nm (Pty.val ⟨nm, n⟩) by rw [HD.out, HF.out]; rfl)
      clear hb
      have hW : ∀ o : Obj, MapH Try.prog 9 ((w.alloc o).drew) m d.p := fun o => (HMH.out.alloc o).drew
      obtain ⟨w3, hupd, hm3, hg3⟩ := (hW (.cells #[.string nm, .int .i64 n] 37)).put Try.underlying9 Try.underlying57 (by have := HSZ.out; unfold maxLen; omega) (s := nm) HN.out (Pty.val ⟨nm, n⟩)
      have hbw := (Below.alloc (Below.refl w.heap.size w) (Nat.le_refl _) (.cells #[.string nm, .int .i64 n] 37)).drew
      have hX : m ≠ w.heap.size := by have := HMH.out.lt; omega
      have hA := H1.out.below hbw
      have hB := hA.turnP (grown_turns hg3) hm3 (H1.out.tp.put H1.out.mp.keys _ _) (by rw [size_putV H1.out.mp.keys]; have := HSZ.out; split <;> omega)
      have hfin : RefIn w0 w3 R g ⟨D', d.a, d.s⟩ := by
        rw [HG.out]
        exact ⟨⟨some m, q, r, hB, H2.out⟩, H3.out, only_below (H4.out.trans (hbw.mono H4.out.size)) (H2.out m (.inl rfl)) (grown_turns hg3)⟩
      have HFIN := Lib.hid hfin
      have c1' := hA.c1
      have cR := hB.c1
      have hs6 : ∀ j u, (#[Value.string nm, .int .i64 n] : Array Value)[j]? = some u → w3.cell? ⟨w.heap.size, j, none⟩ = some u := fun j u hu =>
        (World.cell?_of_block (a := ⟨w.heap.size, j, none⟩) (hg3.block w.heap.size (by simp) (fun e => hX (by injection e with e; exact e.symm)))).trans (by
          rw [show ((w.alloc (.cells #[.string nm, .int .i64 n] 37)).drew).cell? ⟨w.heap.size, j, none⟩ = (w.alloc (.cells #[.string nm, .int .i64 n] 37)).cell? ⟨w.heap.size, j, none⟩ from rfl, cell_of_row _ _ _ _ _ (0, 0) (heap_alloc_new w _)]; exact hu)
      have HS7 := Lib.hid (⟨cR, hs6 0 _ rfl, hs6 1 _ rfl⟩ : w3.cell? ⟨R, 1, none⟩ = some (.map (some m)) ∧ w3.cell? ⟨w.heap.size, 0, none⟩ = some (.string nm) ∧ w3.cell? ⟨w.heap.size, 1, none⟩ = some (.int .i64 n))
      clear hA hB hbw hfin hm3 hg3 cR hs6 hW
      simp only [Pty.val] at hupd
      go_enter Try.func19, Try.ntmps19
      go_wp2_with fail
      refine (HIN.out _).mono ?_
      rw [HB.out]
      rintro e w1 ⟨rfl, rfl⟩
      go_wp2_with fail
      go_region_held3 (fun w' => w'.cell? ⟨R, 1, none⟩ = some (.map (some m)) ∧ w'.cell? ⟨w.heap.size, 0, none⟩ = some (.string nm) ∧ w'.cell? ⟨w.heap.size, 1, none⟩ = some (.int .i64 n))
        (first | exact HS7.out | (refine ⟨c1', ?_⟩; simp) | go_keep) (fail)
      all_goals
        go_wp2
        go_ret
        exact ⟨by rw [HF.out]; rfl, HFIN.out⟩

end Go.Proofs.Ytohlmegbndgedaa
