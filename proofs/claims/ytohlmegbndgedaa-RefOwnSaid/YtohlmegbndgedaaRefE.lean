/-
  ref: SetPrice, SetLimit.
-/
import Derived.Test.YtohlmegbndgedaaRefD
namespace Go.Proofs.Ytohlmegbndgedaa
open Go.RowKit Go.Maps Go.WideMaps Held

/-- A map of the data is changed where it lies. -/
theorem RefAt.turnS {w w' : World} {R g m : Nat} {p q : Option Nat} {d : Dat} {D : DH} (h : RefAt w R g p q (some m) d) (ht : Turns (Only m) w w') (hm : MapH Try.prog 9 w' m D) (hty : Typed Ast.val D) (hsz : Maps.size D ≤ 1000) : RefAt w' R g p q (some m) ⟨d.p, d.a, D⟩ := by
  obtain ⟨r1, r2, r3, r4⟩ := h.rR m rfl
  have nR : ¬ Only m R := fun e => r1 e.symm
  have cR : ∀ j, w'.cell? ⟨R, j, none⟩ = w.cell? ⟨R, j, none⟩ := fun j => ht.cell (p := ⟨R, j, none⟩) h.lt nR
  have cg : w'.cell? ⟨g, 0, none⟩ = w.cell? ⟨g, 0, none⟩ := ht.cell (p := ⟨g, 0, none⟩) h.cal.1 (fun e => r2 e.symm)
  refine ⟨Nat.lt_of_lt_of_le h.lt ht.size, fun j => (ht.frozen (p := ⟨R, j, none⟩) h.lt nR).trans (h.frz j), (cR 0).trans h.c0, (cR 1).trans h.c1, (cR 2).trans h.c2, (cR 3).trans h.c3,
    h.cal.turns ht (fun k _ e => ⟨fun e' => r2 (by rw [← e']; exact e.symm), fun k' hk' e' => r3 k' hk' (by rw [← e']; exact e.symm)⟩), h.mp.turns ht (fun k e e' => r4.1 (by rw [e]; exact congrArg some e')), h.ma.turns ht (fun k e e' => r4.2 (by rw [e]; exact congrArg some e')), .inr ⟨m, rfl, hm⟩,
    h.tp, h.ta, hty, ⟨h.sz.1, h.sz.2.1, hsz⟩, h.gR, by rw [cg]; exact h.calm, by rw [cg]; exact h.pR, by rw [cg]; exact h.qR, by rw [cg]; exact h.rR⟩
theorem RefAt.turnP {w w' : World} {R g m : Nat} {q r : Option Nat} {d : Dat} {D : DH} (h : RefAt w R g (some m) q r d) (ht : Turns (Only m) w w') (hm : MapH Try.prog 9 w' m D) (hty : Typed Pty.val D) (hsz : Maps.size D ≤ 1000) : RefAt w' R g (some m) q r ⟨D, d.a, d.s⟩ := by
  obtain ⟨r1, r2, r3, r4⟩ := h.pR m rfl
  have nR : ¬ Only m R := fun e => r1 e.symm
  have cR : ∀ j, w'.cell? ⟨R, j, none⟩ = w.cell? ⟨R, j, none⟩ := fun j => ht.cell (p := ⟨R, j, none⟩) h.lt nR
  have cg : w'.cell? ⟨g, 0, none⟩ = w.cell? ⟨g, 0, none⟩ := ht.cell (p := ⟨g, 0, none⟩) h.cal.1 (fun e => r2 e.symm)
  refine ⟨Nat.lt_of_lt_of_le h.lt ht.size, fun j => (ht.frozen (p := ⟨R, j, none⟩) h.lt nR).trans (h.frz j), (cR 0).trans h.c0, (cR 1).trans h.c1, (cR 2).trans h.c2, (cR 3).trans h.c3,
    h.cal.turns ht (fun k _ e => ⟨fun e' => r2 (by rw [← e']; exact e.symm), fun k' hk' e' => r3 k' hk' (by rw [← e']; exact e.symm)⟩), .inr ⟨m, rfl, hm⟩, h.ma.turns ht (fun k e e' => r4.1 (by rw [e]; exact congrArg some e')), h.ms.turns ht (fun k e e' => r4.2 (by rw [e]; exact congrArg some e')),
    hty, h.ta, h.ts, ⟨hsz, h.sz.2⟩, h.gR, by rw [cg]; exact h.calm, by rw [cg]; exact h.pR, by rw [cg]; exact h.qR, by rw [cg]; exact h.rR⟩

theorem grown_turns {w w' : World} {m : Nat} (h : w.grownBy w' (some m)) : Turns (Only m) w w' := ⟨h.os, h.tape, h.output, h.size, fun k hk hn => h.block k hk (fun e => hn (Option.some.inj e))⟩

theorem price_nil (s : ByteArray) (n : Int) (w : World) : Calls Try.prog 18 #[.pointer none, .string s, .int .i64 n] w fun e w' => e = .returned (.int .i64 1) ∧ Below w.heap.size w w' := by
  go_enter Try.func18, Try.ntmps18
  go_wp2
  go_ret
  exact ⟨rfl, Below.refl _ _⟩
theorem limit_nil (s : ByteArray) (n : Int) (w : World) : Calls Try.prog 19 #[.pointer none, .string s, .int .i64 n] w fun e w' => e = .returned (.int .i64 1) ∧ Below w.heap.size w w' := by
  go_enter Try.func19, Try.ntmps19
  go_wp2
  go_ret
  exact ⟨rfl, Below.refl _ _⟩

/-- Why a price is not set; 0: it is. -/
def priceE (D : DH) (s : ByteArray) (n : Int) : Int := if hasV D s = false then 7 else if inB n 0 1099511627776 = false ∨ (getS D s).cash = true then 1 else 0
def priceD (D : DH) (s : ByteArray) (n : Int) : DH := if priceE D s n = 0 then putV D (getS D s).name (Ast.val { getS D s with price := n }) else D

set_option maxRecDepth 100000 in
set_option maxHeartbeats 1600000 in
theorem price_in {w0 w : World} {R g : Nat} {d : Dat} (s : ByteArray) (n : Int) (h : RefIn w0 w R g d) (hs : s.size ≤ maxLen) (hn : (getS d.s s).name.size ≤ maxLen) (hsz : Maps.size d.s ≤ 900) :
    Calls Try.prog 18 #[.pointer (some ⟨R, 0, none⟩), .string s, .int .i64 n] w fun e w' => e = .returned (.int .i64 (priceE d.s s n)) ∧ RefIn w0 w' R g ⟨d.p, d.a, priceD d.s s n⟩ := by
  obtain ⟨⟨p, q, r, h1, h2⟩, h3, h4⟩ := h
  have hlk := h1.ms.lookOk Try.underlying59 zeroAstV hs
  rw [getS_val h1.ts] at hlk
  have c3 := h1.c3
  have HE := Lib.hid (show priceE d.s s n = if hasV d.s s = false then 7 else if inB n 0 1099511627776 = false ∨ (getS d.s s).cash = true then 1 else 0 from rfl)
  have HD := Lib.hid (show priceD d.s s n = if priceE d.s s n = 0 then putV d.s (getS d.s s).name (Ast.val { getS d.s s with price := n }) else d.s from rfl)
  obtain ⟨x, hx⟩ : ∃ x, x = getS d.s s := ⟨_, rfl⟩
  obtain ⟨D', hD'⟩ : ∃ D', D' = priceD d.s s n := ⟨_, rfl⟩
  obtain ⟨E, hE⟩ : ∃ E, E = priceE d.s s n := ⟨_, rfl⟩
  rw [← hx] at hlk HE HD hn
  rw [← hE] at HE HD ⊢
  rw [← hD'] at HD ⊢
  have H1 := Lib.hid h1
  have H2 := Lib.hid h2
  have H3 := Lib.hid h3
  have H4 := Lib.hid h4
  have HN := Lib.hid hn
  have HSZ := Lib.hid hsz
  have HIN := Lib.hid (fun W => in_any n 0 1099511627776 W)
  have hRlt := h1.lt
  clear hx hD' hE h1 h2 h3 h4 hn hsz
  have HKEEP : Hid (∀ W, Below w.heap.size w W → D' = d.s → RefIn w0 W R g ⟨d.p, d.a, D'⟩) := Lib.hid (fun W hW e => by
    rw [e]; exact (RefIn.mk ⟨p, q, r, H1.out, H2.out⟩ H3.out H4.out).step hW)
  cases hh : hasV d.s s with
  | false =>
    have HF := Lib.hid (show E = 7 by rw [HE.out, hh]; rfl)
    have HG := Lib.hid (show D' = d.s by rw [HD.out, HF.out]; rfl)
    rw [hh] at hlk
    clear hh
    simp only [Ast.val] at hlk
    go_enter Try.func18, Try.ntmps18
    go_wp2
    go_ret
    exact ⟨by rw [HF.out]; rfl, HKEEP.out _ ((Below.refl _ _).alloc (Nat.le_refl _) _) HG.out⟩
  | true =>
    rw [hh] at hlk HE
    obtain ⟨nm, cash, pl, un, le, pr, cu, cl⟩ := x
    simp only at HE HD HN
    have hsm : r ≠ none := fun e => by
      rcases H1.out.ms with ⟨_, h⟩ | ⟨m, h, _⟩
      · rw [h, hasV_none] at hh; cases hh
      · rw [h] at e; cases e
    obtain ⟨m, rfl⟩ : ∃ m, r = some m := by cases r with | none => exact absurd rfl hsm | some m => exact ⟨m, rfl⟩
    have hmh : MapH Try.prog 9 w m d.s := by
      rcases H1.out.ms with ⟨h, _⟩ | ⟨m', h, hm⟩
      · cases h
      · injection h with h; subst h; exact hm
    have HMH := Lib.hid hmh
    have HHS := Lib.hid hh
    clear hh hmh hsm
    simp only [Ast.val] at hlk
    cases hb : inB n 0 1099511627776 with
    | false =>
      have HF := Lib.hid (show E = 1 by rw [HE.out, hb]; rfl)
      have HG := Lib.hid (show D' = d.s by rw [HD.out, HF.out]; rfl)
      have HB := Lib.hid hb
      clear hb
      go_enter Try.func18, Try.ntmps18
      go_wp2_with fail
      refine (HIN.out _).mono ?_
      rw [HB.out]
      rintro e w1 ⟨rfl, rfl⟩
      go_wp2
      go_ret
      exact ⟨by rw [HF.out]; rfl, HKEEP.out _ ((Below.refl _ _).alloc (Nat.le_refl _) _) HG.out⟩
    | true =>
      have HB := Lib.hid hb
      cases cash with
      | true =>
        have HF := Lib.hid (show E = 1 by rw [HE.out, hb]; rfl)
        have HG := Lib.hid (show D' = d.s by rw [HD.out, HF.out]; rfl)
        clear hb
        go_enter Try.func18, Try.ntmps18
        go_wp2_with fail
        refine (HIN.out _).mono ?_
        rw [HB.out]
        rintro e w1 ⟨rfl, rfl⟩
        go_wp2
        go_ret
        exact ⟨by rw [HF.out]; rfl, HKEEP.out _ ((Below.refl _ _).alloc (Nat.le_refl _) _) HG.out⟩
      | false =>
        have HF := Lib.hid (show E = 0 by rw [HE.out, hb]; rfl)
        have HG := Lib.hid (show D' = putV d.s nm (Ast.val ⟨nm, false, pl, un, le, n, cu, cl⟩) by rw [HD.out, HF.out]; rfl)
        clear hb
        have hW : ∀ o : Obj, MapH Try.prog 9 ((w.alloc o).drew) m d.s := fun o => (HMH.out.alloc o).drew
        obtain ⟨w3, hupd, hm3, hg3⟩ := (hW (.cells #[.string nm, .bool false, .bool pl, .int .i64 un, .int .i64 le, .int .i64 n, .int .i64 cu, .int .i64 cl] 29)).put Try.underlying9 Try.underlying59 (by have := HSZ.out; unfold maxLen; omega) (s := nm) HN.out (Ast.val ⟨nm, false, pl, un, le, n, cu, cl⟩)
        have hbw := (Below.alloc (Below.refl w.heap.size w) (Nat.le_refl _) (.cells #[.string nm, .bool false, .bool pl, .int .i64 un, .int .i64 le, .int .i64 n, .int .i64 cu, .int .i64 cl] 29)).drew
        have hX : m ≠ w.heap.size := by have := HMH.out.lt; omega
        have hA := H1.out.below hbw
        have hB := hA.turnS (grown_turns hg3) hm3 (H1.out.ts.put H1.out.ms.keys _ _) (by rw [size_putV H1.out.ms.keys]; have := HSZ.out; split <;> omega)
        have hfin : RefIn w0 w3 R g ⟨d.p, d.a, D'⟩ := by
          rw [HG.out]
          exact ⟨⟨p, q, some m, hB, H2.out⟩, H3.out, only_below (H4.out.trans (hbw.mono H4.out.size)) (H2.out m (.inr (.inr rfl))) (grown_turns hg3)⟩
        have HFIN := Lib.hid hfin
        have c3' := hA.c3
        have cR := hB.c3
        have hs6 : ∀ j u, (#[Value.string nm, .bool false, .bool pl, .int .i64 un, .int .i64 le, .int .i64 n, .int .i64 cu, .int .i64 cl] : Array Value)[j]? = some u → w3.cell? ⟨w.heap.size, j, none⟩ = some u := fun j u hu =>
          (World.cell?_of_block (a := ⟨w.heap.size, j, none⟩) (hg3.block w.heap.size (by simp) (fun e => hX (by injection e with e; exact e.symm)))).trans (by
            rw [show ((w.alloc (.cells #[.string nm, .bool false, .bool pl, .int .i64 un, .int .i64 le, .int .i64 n, .int .i64 cu, .int .i64 cl] 29)).drew).cell? ⟨w.heap.size, j, none⟩ = (w.alloc (.cells #[.string nm, .bool false, .bool pl, .int .i64 un, .int .i64 le, .int .i64 n, .int .i64 cu, .int .i64 cl] 29)).cell? ⟨w.heap.size, j, none⟩ from rfl, cell_of_row _ _ _ _ _ (0, 0) (heap_alloc_new w _)]; exact hu)
        have HS7 := Lib.hid (⟨cR, hs6 0 _ rfl, hs6 1 _ rfl, hs6 2 _ rfl, hs6 3 _ rfl, hs6 4 _ rfl, hs6 5 _ rfl, hs6 6 _ rfl, hs6 7 _ rfl⟩ : w3.cell? ⟨R, 3, none⟩ = some (.map (some m)) ∧ w3.cell? ⟨w.heap.size, 0, none⟩ = some (.string nm) ∧ w3.cell? ⟨w.heap.size, 1, none⟩ = some (.bool false) ∧ w3.cell? ⟨w.heap.size, 2, none⟩ = some (.bool pl) ∧ w3.cell? ⟨w.heap.size, 3, none⟩ = some (.int .i64 un) ∧ w3.cell? ⟨w.heap.size, 4, none⟩ = some (.int .i64 le) ∧ w3.cell? ⟨w.heap.size, 5, none⟩ = some (.int .i64 n) ∧ w3.cell? ⟨w.heap.size, 6, none⟩ = some (.int .i64 cu) ∧ w3.cell? ⟨w.heap.size, 7, none⟩ = some (.int .i64 cl))
        clear hA hB hbw hfin hm3 hg3 cR hs6 hW
        simp only [Ast.val] at hupd
        go_enter Try.func18, Try.ntmps18
        go_wp2_with fail
        refine (HIN.out _).mono ?_
        rw [HB.out]
        rintro e w1 ⟨rfl, rfl⟩
        go_wp2_with fail
        go_region_held3 (fun w' => w'.cell? ⟨R, 3, none⟩ = some (.map (some m)) ∧ w'.cell? ⟨w.heap.size, 0, none⟩ = some (.string nm) ∧ w'.cell? ⟨w.heap.size, 1, none⟩ = some (.bool false) ∧ w'.cell? ⟨w.heap.size, 2, none⟩ = some (.bool pl) ∧ w'.cell? ⟨w.heap.size, 3, none⟩ = some (.int .i64 un) ∧ w'.cell? ⟨w.heap.size, 4, none⟩ = some (.int .i64 le) ∧ w'.cell? ⟨w.heap.size, 5, none⟩ = some (.int .i64 n) ∧ w'.cell? ⟨w.heap.size, 6, none⟩ = some (.int .i64 cu) ∧ w'.cell? ⟨w.heap.size, 7, none⟩ = some (.int .i64 cl))
          (first | exact HS7.out | (refine ⟨c3', ?_⟩; simp) | go_keep) (fail)
        all_goals
          go_wp2
          go_ret
          exact ⟨by rw [HF.out]; rfl, HFIN.out⟩

end Go.Proofs.Ytohlmegbndgedaa
