/-
  ref: two data beside each other; rows that are read; SameAssets.
-/
import Derived.Test.YtohlmegbndgedaaRefF
import Derived.Laws.StructEq
namespace Go.Proofs.Ytohlmegbndgedaa
open Go.RowKit Go.Maps Go.WideMaps Held

theorem not_map {w : World} {b j : Nat} {v : Value} (h : w.cell? ⟨b, j, none⟩ = some v) {es : Array MapEntry} {n : Nat} : w.heap[b]? ≠ some (.map es n) := fun e => by
  simp [World.cell?, e] at h

/-- A turn of one's block leaves the other's data. -/
theorem RefAt.other {w w' : World} {R g X gx : Nat} {p q r px qx rx : Option Nat} {d dx : Dat} (h : RefAt w R g p q r d) (hx : RefAt w X gx px qx rx dx) (ne : X ≠ R) (ht : Turns (Only X) w w') : RefAt w' R g p q r d := by
  have hX0 := hx.c0
  have hg : g ≠ X := fun e => by
    obtain ⟨_, m, hm, _⟩ := h.cal
    rw [e, hX0] at hm
    cases hm
  have hk : ∀ k, w.cell? ⟨g, 0, none⟩ = some (.map (some k)) → k ≠ X := fun k e e' => by
    obtain ⟨_, m, hm, ho⟩ := h.cal
    rw [hm] at e
    injection e with e
    injection e with e
    injection e with e
    obtain ⟨es, clock, h1, _⟩ := ho
    rw [e, e'] at h1
    exact not_map hX0 h1
  have hmo : ∀ (p : Option Nat) (D : DH), MapO w p D → ∀ m, p = some m → m ≠ X := fun p D h m e e' => by
    rcases h with ⟨h, _⟩ | ⟨m', h, hm⟩
    · rw [h] at e; cases e
    · rw [h] at e
      injection e with e
      obtain ⟨⟨es, clock, h1, _⟩, _⟩ := hm
      rw [e, e'] at h1
      exact not_map hX0 h1
  have nR : ¬ Only X R := fun e => ne e.symm
  have cR : ∀ j, w'.cell? ⟨R, j, none⟩ = w.cell? ⟨R, j, none⟩ := fun j => ht.cell (p := ⟨R, j, none⟩) h.lt nR
  have cg : w'.cell? ⟨g, 0, none⟩ = w.cell? ⟨g, 0, none⟩ := ht.cell (p := ⟨g, 0, none⟩) h.cal.1 (fun e => hg e)
  refine ⟨Nat.lt_of_lt_of_le h.lt ht.size, fun j => (ht.frozen (p := ⟨R, j, none⟩) h.lt nR).trans (h.frz j), (cR 0).trans h.c0, (cR 1).trans h.c1, (cR 2).trans h.c2, (cR 3).trans h.c3,
    h.cal.turns ht (fun k _ e => ⟨fun e' => hg (by rw [← e']; exact e), fun k' hk' e' => hk k' hk' (by rw [← e']; exact e)⟩), h.mp.turns ht (fun k e e' => hmo _ _ h.mp k e e'), h.ma.turns ht (fun k e e' => hmo _ _ h.ma k e e'), h.ms.turns ht (fun k e e' => hmo _ _ h.ms k e e'),
    h.tp, h.ta, h.ts, h.sz, h.gR, by rw [cg]; exact h.calm, by rw [cg]; exact h.pR, by rw [cg]; exact h.qR, by rw [cg]; exact h.rR⟩

theorem RefIn.other {w0 w0' w w' : World} {R g X gx : Nat} {d dx : Dat} (h : RefIn w0 w R g d) (hx : RefIn w0' w X gx dx) (ne : X ≠ R) (hX : w0.heap.size ≤ X) (ht : Turns (Only X) w w') : RefIn w0 w' R g d := by
  obtain ⟨⟨p, q, r, h1, h2⟩, h3, h4⟩ := h
  obtain ⟨px, qx, rx, hx1, _⟩ := hx.ex
  exact ⟨⟨p, q, r, h1.other hx1 ne ht, h2⟩, h3, only_below h4 hX ht⟩
theorem RefIn.weaken {w0 w1 w : World} {R g : Nat} {d : Dat} (h : RefIn w1 w R g d) (hb : Below w0.heap.size w0 w1) : RefIn w0 w R g d := by
  obtain ⟨⟨p, q, r, h1, h2⟩, h3, h4⟩ := h
  exact ⟨⟨p, q, r, h1, fun m hm => Nat.le_trans hb.size (h2 m hm)⟩, Nat.le_trans hb.size h3, hb.trans (h4.mono hb.size)⟩
theorem RefIn.lt {w0 w : World} {R g : Nat} {d : Dat} (h : RefIn w0 w R g d) : R < w.heap.size := by
  obtain ⟨p, q, r, h1, _⟩ := h.ex
  exact h1.lt

theorem addS_in3 {w0 w : World} {R g : Nat} {d : Dat} (v : Value) (xs : List Ast) (h : RefIn w0 w R g d) (hv : AstsAt w v xs) :
    Calls Try.prog 9 #[.pointer (some ⟨R, 0, none⟩), v] w fun e w' => e = .returned (.int .i64 (addL Ast.name Ast.val aheadS behindS 12 d.s d.s xs).2) ∧ RefIn w0 w' R g ⟨d.p, d.a, (addL Ast.name Ast.val aheadS behindS 12 d.s d.s xs).1⟩ ∧ Turns (Only R) w w' := by
  obtain ⟨⟨p, q, r, h1, h2⟩, h3, h4⟩ := h
  refine (addS_any v xs w h1 hv).mono fun e w' ⟨he, ⟨p', hr, hc⟩, ht⟩ => ⟨he, ⟨⟨p, q, p', hr, fun m hm => ?_⟩, h3, only_below h4 h3 ht⟩, ht⟩
  rcases hm with hm | hm | hm
  · exact h2 m (.inl hm)
  · exact h2 m (.inr (.inl hm))
  · rcases hc with rfl | ⟨m', e', hle⟩
    · exact h2 m (.inr (.inr hm))
    · rw [e'] at hm; injection hm with hm; have := h4.size; omega

theorem allS_in {w0 w : World} {R g : Nat} {d : Dat} (h : RefIn w0 w R g d) (hks : ∀ s, hasV d.s s = true → s.size ≤ maxLen) :
    Calls Try.prog 10 #[.pointer (some ⟨R, 0, none⟩)] w fun e w' => ∃ v, e = .returned v ∧ OwnS w' w.heap.size v (rowsS d.s) ∧ Below w.heap.size w w' := by
  obtain ⟨p, q, r, h1, _⟩ := h.ex
  exact allS_any w h1 hks

theorem flat_get {α : Type} (f : α → List Value) (m : Nat) (hf : ∀ x, (f x).length = m) (d : α) : ∀ (l : List α) (i j : Nat), i < l.length → j < m → (l.flatMap f)[i * m + j]? = (f (l.getD i d))[j]?
  | [], i, _, hi, _ => by simp at hi
  | x :: r, 0, j, _, hj => by
    rw [List.flatMap_cons, Nat.zero_mul, Nat.zero_add, List.getElem?_append_left (by rw [hf]; exact hj)]; rfl
  | x :: r, i + 1, j, hi, hj => by
    rw [List.flatMap_cons, List.getElem?_append_right (by rw [hf, Nat.add_mul]; omega), hf, show (i + 1) * m + j - m = i * m + j by rw [Nat.add_mul]; omega]
    exact flat_get f m hf d r i j (by simpa using hi) hj

/-- The rows xs, as they are read. -/
def AstRow (w : World) (a : Option Addr) (xs : List Ast) : Prop := xs = [] ∨ ∃ b off, a = some ⟨b, off, none⟩ ∧ b < w.heap.size ∧ ∀ i j, i < xs.length → j < 8 → w.cell? ⟨b, off + i * 8 + j, none⟩ = (xs.getD i ast0).cells[j]?
theorem AstRow.below {w w' : World} {a : Option Addr} {xs : List Ast} (h : AstRow w a xs) (hb : Below w.heap.size w w') : AstRow w' a xs := by
  rcases h with h4 | ⟨b, off, e, hlt, hc⟩
  · exact .inl h4
  · exact .inr ⟨b, off, e, by have := hb.size; omega, fun i j hi hj => by rw [hb.cell (p := ⟨b, _, none⟩) hlt]; exact hc i j hi hj⟩
theorem OwnS.row {w : World} {base : Nat} {v : Value} {xs : List Ast} (h : OwnS w base v xs) : ∃ a c, v = .slice a xs.length c ∧ AstRow w a xs := by
  by_cases hx : xs = []
  · subst hx
    rcases h.2 with ⟨rfl, _⟩ | ⟨g, cap, cur, rfl, _⟩
    · exact ⟨none, 0, rfl, .inl rfl⟩
    · exact ⟨_, cap, rfl, .inl rfl⟩
  · obtain ⟨g, cap, rfl, _, hg, _, hc⟩ := row_cell h (List.length_pos_iff.2 hx)
    refine ⟨_, cap, rfl, .inr ⟨g, 0, rfl, hg, fun i j hi hj => ?_⟩⟩
    rw [Nat.zero_add]
    have hl := flat_get Ast.cells 8 (fun _ => rfl) ast0 xs i j hi hj
    have : ∃ u, (xs.getD i ast0).cells[j]? = some u := ⟨_, List.getElem?_eq_getElem (by show j < 8; exact hj)⟩
    obtain ⟨u, hu⟩ := this
    rw [hu] at hl ⊢
    exact hc _ _ hl

theorem below_drewN {B : Nat} {a w : World} (h : Below B a w) (n : Nat) : Below B a (w.drewN n) := h.trans ⟨rfl, rfl, rfl, Nat.le_refl _, fun _ _ => rfl⟩

set_option maxRecDepth 100000 in
theorem eq_ast (x : Ast) (w : World) : (Op.equalIn 10000 29 (.agg #[.string x.name, .bool x.cash, .bool x.pledge, .int .i64 x.unit, .int .i64 x.least, .int .i64 x.price, .int .i64 x.cut, .int .i64 x.close]) (.agg #[.string x.name, .bool x.cash, .bool x.pledge, .int .i64 x.unit, .int .i64 x.least, .int .i64 x.price, .int .i64 x.cut, .int .i64 x.close])).run Try.prog w = .ok true w := by
  rw [run_equalIn_agg w 9999 29 _ _ rfl (by kernel_rfl)]
  simp [Program.fieldsOf, Try.underlying29, go_sem]

set_option maxRecDepth 100000 in
set_option maxHeartbeats 1600000 in
theorem sameS_any (a1 a2 : Option Addr) (c1 c2 : Nat) (xs : List Ast) (w : World) (h1 : AstRow w a1 xs) (h2 : AstRow w a2 xs) (hl : xs.length ≤ 1000) :
    Calls Try.prog 11 #[.slice a1 xs.length c1, .slice a2 xs.length c2] w fun e w' => e = .returned (.bool true) ∧ Below w.heap.size w w' := by
  obtain ⟨L, hL⟩ : ∃ L, L = xs.length := ⟨_, rfl⟩
  rw [← hL] at hl ⊢
  have HL := Lib.hid hL
  have HC1 := Lib.hid h1
  have HC2 := Lib.hid h2
  clear hL h1 h2
  go_enter Try.func11, Try.ntmps11
  go_wp2_with fail
  go_loopw [5] (fun i wr => ∃ k : Nat, i = .int .i64 k ∧ k ≤ L ∧ Below w.heap.size w wr) (fun i _ => (L - RowKit.intOf i).toNat)
  case atStart => exact ⟨0, rfl, Nat.zero_le _, Below.refl _ _⟩
  case round =>
    obtain ⟨k, rfl, hk, hbw⟩ := hrel
    have HB := Lib.hid hbw
    by_cases hlt : k < L
    · have hltz : (k : Int) < (L : Int) := by omega
      have hk0 : (0 : Int) ≤ (k : Int) := by omega
      have h2 : k < xs.length := by rw [← HL.out]; exact hlt
      obtain ⟨b, off, rfl, hbl, x0, x1, x2, x3, x4, x5, x6, x7⟩ := Ast_cells (HC1.out.below hbw) (k := k) h2
      obtain ⟨b', off', rfl, hbl', y0, y1, y2, y3, y4, y5, y6, y7⟩ := Ast_cells (HC2.out.below hbw) (k := k) h2
      obtain ⟨x, hx⟩ : ∃ x, x = xs.getD k ast0 := ⟨_, rfl⟩
      rw [← hx] at x0 x1 x2 x3 x4 x5 x6 x7 y0 y1 y2 y3 y4 y5 y6 y7
      have he := eq_ast x
      clear hx h2
      go_wp2_with fail
      go_quiet (fail)
      go_wp2
      go_roundw
      case rel => exact ⟨k + 1, by go_num, by omega, below_drewN HB.out _⟩
      case measure => simp [RowKit.intOf]; omega
    · have hltz : ¬ (k : Int) < (L : Int) := by omega
      go_wp2
      go_ret
      exact ⟨rfl, HB.out⟩

theorem ast1 (w : World) (t : TypeId) (b : Nat) (hb : w.heap.size = b) (x : Ast) (hx : x.wf) : AstsAt (w.alloc (.cells #[.string x.name, .bool x.cash, .bool x.pledge, .int .i64 x.unit, .int .i64 x.least, .int .i64 x.price, .int .i64 x.cut, .int .i64 x.close] t)) (.slice (some ⟨b, 0, none⟩) 1 1) [x] := by
  subst hb
  refine ⟨_, 1, rfl, by simp, fun y hy => by simp at hy; subst hy; exact hx, .inr ⟨_, 0, rfl, by simp, fun i j hi hj => ?_⟩⟩
  obtain rfl : i = 0 := by simp at hi; omega
  rw [cell_of_row _ _ _ _ t (0, 0) (heap_alloc_new w _)]
  match j, hj with
  | 0, _ => rfl
  | 1, _ => rfl
  | 2, _ => rfl
  | 3, _ => rfl
  | 4, _ => rfl
  | 5, _ => rfl
  | 6, _ => rfl
  | 7, _ => rfl

end Go.Proofs.Ytohlmegbndgedaa
