/-
  ref: the data as they lie in memory; New, AddParties, AddAccounts, AddAssets.
-/
import Derived.Test.YtohlmegbndgedaaRefPA
import Derived.Test.YtohlmegbndgedaaRefQA
import Derived.Test.YtohlmegbndgedaaRefSA
namespace Go.Proofs.Ytohlmegbndgedaa
open Go.RowKit Go.Maps Go.WideMaps Held

/-- What there is: parties, accounts, assets. -/
structure Dat where
  p : DH
  a : DH
  s : DH

/-- At block R lie the data d: the calendar at g, the maps at p, q, r. -/
structure RefAt (w : World) (R g : Nat) (p q r : Option Nat) (d : Dat) : Prop where
  lt : R < w.heap.size
  frz : ∀ j, w.frozen? ⟨R, j, none⟩ = false
  c0 : w.cell? ⟨R, 0, none⟩ = some (.pointer (some ⟨g, 0, none⟩))
  c1 : w.cell? ⟨R, 1, none⟩ = some (.map p)
  c2 : w.cell? ⟨R, 2, none⟩ = some (.map q)
  c3 : w.cell? ⟨R, 3, none⟩ = some (.map r)
  cal : CalZ w g
  mp : MapO w p d.p
  ma : MapO w q d.a
  ms : MapO w r d.s
  tp : Typed Pty.val d.p
  ta : Typed Acc.val d.a
  ts : Typed Ast.val d.s
  sz : Maps.size d.p ≤ 1000 ∧ Maps.size d.a ≤ 1000 ∧ Maps.size d.s ≤ 1000
  gR : g ≠ R
  calm : ∀ m, w.cell? ⟨g, 0, none⟩ = some (.map (some m)) → m ≠ R
  pR : ∀ m, p = some m → m ≠ R ∧ m ≠ g ∧ (∀ k, w.cell? ⟨g, 0, none⟩ = some (.map (some k)) → m ≠ k) ∧ (q ≠ some m ∧ r ≠ some m)
  qR : ∀ m, q = some m → m ≠ R ∧ m ≠ g ∧ (∀ k, w.cell? ⟨g, 0, none⟩ = some (.map (some k)) → m ≠ k) ∧ (p ≠ some m ∧ r ≠ some m)
  rR : ∀ m, r = some m → m ≠ R ∧ m ≠ g ∧ (∀ k, w.cell? ⟨g, 0, none⟩ = some (.map (some k)) → m ≠ k) ∧ (p ≠ some m ∧ q ≠ some m)

theorem RefAt.below {w w' : World} {R g : Nat} {p q r : Option Nat} {d : Dat} (h : RefAt w R g p q r d) (hb : Below w.heap.size w w') : RefAt w' R g p q r d := by
  have cg : w'.cell? ⟨g, 0, none⟩ = w.cell? ⟨g, 0, none⟩ := hb.cell (p := ⟨g, 0, none⟩) h.cal.1
  exact ⟨Nat.lt_of_lt_of_le h.lt hb.size, fun j => (hb.frozen (p := ⟨R, j, none⟩) h.lt).trans (h.frz j), (hb.cell (p := ⟨R, 0, none⟩) h.lt).trans h.c0, (hb.cell (p := ⟨R, 1, none⟩) h.lt).trans h.c1, (hb.cell (p := ⟨R, 2, none⟩) h.lt).trans h.c2, (hb.cell (p := ⟨R, 3, none⟩) h.lt).trans h.c3,
    h.cal.below hb, h.mp.below hb, h.ma.below hb, h.ms.below hb, h.tp, h.ta, h.ts, h.sz, h.gR, by rw [cg]; exact h.calm, by rw [cg]; exact h.pR, by rw [cg]; exact h.qR, by rw [cg]; exact h.rR⟩

theorem MapO.lt {w : World} {p : Option Nat} {D : DH} (h : MapO w p D) {m : Nat} (e : p = some m) : m < w.heap.size := by
  rcases h with ⟨rfl, _⟩ | ⟨m', rfl, h⟩
  · cases e
  · injection e with e; subst e; exact h.lt

theorem CalZ.mlt {w : World} {g : Nat} (h : CalZ w g) {m : Nat} (e : w.cell? ⟨g, 0, none⟩ = some (.map (some m))) : m < w.heap.size := by
  obtain ⟨_, m', hm, ho⟩ := h
  rw [hm] at e
  injection e with e
  injection e with e
  injection e with e
  subst e
  exact ho.lt

/-- A store into the data's own block turns nothing else. -/
theorem far_cell {w : World} {R j : Nat} {u : Value} {p : Addr} (h : p.block ≠ R) : (w.setCell ⟨R, j, none⟩ u).cell? p = w.cell? p := World.cell?_setCell_other _ _ _ _ (fun e => h (by rw [← e]))
theorem MapO.far {w : World} {p : Option Nat} {D : DH} (h : MapO w p D) {R j : Nat} {u : Value} (hR : ∀ m, p = some m → m ≠ R) : MapO (w.setCell ⟨R, j, none⟩ u) p D := by
  rcases h with h | ⟨m, e, h⟩
  · exact .inl h
  · exact .inr ⟨m, e, h.far (p := ⟨R, j, none⟩) (hR m e) u⟩
theorem CalZ.far {w : World} {g : Nat} (h : CalZ w g) {R j : Nat} {u : Value} (hg : g ≠ R) (hm : ∀ m, w.cell? ⟨g, 0, none⟩ = some (.map (some m)) → m ≠ R) : CalZ (w.setCell ⟨R, j, none⟩ u) g := by
  obtain ⟨h1, m, h2, ho⟩ := h
  exact ⟨by simpa using h1, m, (far_cell (p := ⟨g, 0, none⟩) hg).trans h2, ho.setCell (hm m h2) u⟩

/-- The parties' map is another one. -/
theorem RefAt.setP {w w1 : World} {R g : Nat} {p q r p' : Option Nat} {d : Dat} {D : DH} (h : RefAt w R g p q r d) (hb : Below w.heap.size w w1) (hm : MapO w1 p' D) (hty : Typed Pty.val D) (hsz : Maps.size D ≤ 1000) (hp : p' = p ∨ ∃ m, p' = some m ∧ w.heap.size ≤ m) :
    RefAt (w1.setCell ⟨R, 1, none⟩ (.map p')) R g p' q r ⟨D, d.a, d.s⟩ := by
  have h1 := h.below hb
  have hlt := h.lt
  have cg : (w1.setCell ⟨R, 1, none⟩ (.map p')).cell? ⟨g, 0, none⟩ = w1.cell? ⟨g, 0, none⟩ := far_cell (p := ⟨g, 0, none⟩) h.gR
  have hp' : ∀ m, p' = some m → m ≠ R ∧ m ≠ g ∧ (∀ k, w1.cell? ⟨g, 0, none⟩ = some (.map (some k)) → m ≠ k) ∧ (q ≠ some m ∧ r ≠ some m) := fun m e => by
    rcases hp with rfl | ⟨m', e', hle⟩
    · exact h1.pR m e
    · rw [e'] at e
      injection e with e
      subst e
      have hg := h.cal.1
      refine ⟨by omega, by omega, fun k hk => ?_, fun e => ?_, fun e => ?_⟩
      · rw [hb.cell (p := ⟨g, 0, none⟩) h.cal.1] at hk
        have := h.cal.mlt hk
        omega
      · have := h.ma.lt e
        omega
      · have := h.ms.lt e
        omega
  refine ⟨by simpa using h1.lt, fun j => by simpa using h1.frz j, (World.cell?_setCell_other _ _ _ _ (by simp)).trans h1.c0, World.cell?_setCell_same _ _ _ h1.c1, (World.cell?_setCell_other _ _ _ _ (by simp)).trans h1.c2, (World.cell?_setCell_other _ _ _ _ (by simp)).trans h1.c3,
    h1.cal.far h.gR h1.calm, hm.far (fun m e => (hp' m e).1), h1.ma.far (fun m e => (h1.qR m e).1), h1.ms.far (fun m e => (h1.rR m e).1), hty, h.ta, h.ts, ⟨hsz, h.sz.2⟩, h.gR, by rw [cg]; exact h1.calm, by rw [cg]; exact hp', ?_, ?_⟩
  · rw [cg]
    intro m e
    have h2 := h1.qR m e
    refine ⟨h2.1, h2.2.1, h2.2.2.1, fun e' => ?_, h2.2.2.2.2⟩
    exact (hp' m e').2.2.2.1 e
  · rw [cg]
    intro m e
    have h2 := h1.rR m e
    refine ⟨h2.1, h2.2.1, h2.2.2.1, fun e' => ?_, h2.2.2.2.2⟩
    exact (hp' m e').2.2.2.2 e

/-- The accounts' map is another one. -/
theorem RefAt.setA {w w1 : World} {R g : Nat} {p q r q' : Option Nat} {d : Dat} {D : DH} (h : RefAt w R g p q r d) (hb : Below w.heap.size w w1) (hm : MapO w1 q' D) (hty : Typed Acc.val D) (hsz : Maps.size D ≤ 1000) (hp : q' = q ∨ ∃ m, q' = some m ∧ w.heap.size ≤ m) :
    RefAt (w1.setCell ⟨R, 2, none⟩ (.map q')) R g p q' r ⟨d.p, D, d.s⟩ := by
  have h1 := h.below hb
  have hlt := h.lt
  have cg : (w1.setCell ⟨R, 2, none⟩ (.map q')).cell? ⟨g, 0, none⟩ = w1.cell? ⟨g, 0, none⟩ := far_cell (p := ⟨g, 0, none⟩) h.gR
  have hp' : ∀ m, q' = some m → m ≠ R ∧ m ≠ g ∧ (∀ k, w1.cell? ⟨g, 0, none⟩ = some (.map (some k)) → m ≠ k) ∧ (p ≠ some m ∧ r ≠ some m) := fun m e => by
    rcases hp with rfl | ⟨m', e', hle⟩
    · exact h1.qR m e
    · rw [e'] at e
      injection e with e
      subst e
      have hg := h.cal.1
      refine ⟨by omega, by omega, fun k hk => ?_, fun e => ?_, fun e => ?_⟩
      · rw [hb.cell (p := ⟨g, 0, none⟩) h.cal.1] at hk
        have := h.cal.mlt hk
        omega
      · have := h.mp.lt e
        omega
      · have := h.ms.lt e
        omega
  refine ⟨by simpa using h1.lt, fun j => by simpa using h1.frz j, (World.cell?_setCell_other _ _ _ _ (by simp)).trans h1.c0, (World.cell?_setCell_other _ _ _ _ (by simp)).trans h1.c1, World.cell?_setCell_same _ _ _ h1.c2, (World.cell?_setCell_other _ _ _ _ (by simp)).trans h1.c3,
    h1.cal.far h.gR h1.calm, h1.mp.far (fun m e => (h1.pR m e).1), hm.far (fun m e => (hp' m e).1), h1.ms.far (fun m e => (h1.rR m e).1), h.tp, hty, h.ts, ⟨h.sz.1, hsz, h.sz.2.2⟩, h.gR, by rw [cg]; exact h1.calm, ?_, by rw [cg]; exact hp', ?_⟩
  · rw [cg]
    intro m e
    have h2 := h1.pR m e
    refine ⟨h2.1, h2.2.1, h2.2.2.1, fun e' => ?_, h2.2.2.2.2⟩
    exact (hp' m e').2.2.2.1 e
  · rw [cg]
    intro m e
    have h2 := h1.rR m e
    refine ⟨h2.1, h2.2.1, h2.2.2.1, h2.2.2.2.1, fun e' => ?_⟩
    exact (hp' m e').2.2.2.2 e

/-- The assets' map is another one. -/
theorem RefAt.setS {w w1 : World} {R g : Nat} {p q r r' : Option Nat} {d : Dat} {D : DH} (h : RefAt w R g p q r d) (hb : Below w.heap.size w w1) (hm : MapO w1 r' D) (hty : Typed Ast.val D) (hsz : Maps.size D ≤ 1000) (hp : r' = r ∨ ∃ m, r' = some m ∧ w.heap.size ≤ m) :
    RefAt (w1.setCell ⟨R, 3, none⟩ (.map r')) R g p q r' ⟨d.p, d.a, D⟩ := by
  have h1 := h.below hb
  have hlt := h.lt
  have cg : (w1.setCell ⟨R, 3, none⟩ (.map r')).cell? ⟨g, 0, none⟩ = w1.cell? ⟨g, 0, none⟩ := far_cell (p := ⟨g, 0, none⟩) h.gR
  have hp' : ∀ m, r' = some m → m ≠ R ∧ m ≠ g ∧ (∀ k, w1.cell? ⟨g, 0, none⟩ = some (.map (some k)) → m ≠ k) ∧ (p ≠ some m ∧ q ≠ some m) := fun m e => by
    rcases hp with rfl | ⟨m', e', hle⟩
    · exact h1.rR m e
    · rw [e'] at e
      injection e with e
      subst e
      have hg := h.cal.1
      refine ⟨by omega, by omega, fun k hk => ?_, fun e => ?_, fun e => ?_⟩
      · rw [hb.cell (p := ⟨g, 0, none⟩) h.cal.1] at hk
        have := h.cal.mlt hk
        omega
      · have := h.mp.lt e
        omega
      · have := h.ma.lt e
        omega
  refine ⟨by simpa using h1.lt, fun j => by simpa using h1.frz j, (World.cell?_setCell_other _ _ _ _ (by simp)).trans h1.c0, (World.cell?_setCell_other _ _ _ _ (by simp)).trans h1.c1, (World.cell?_setCell_other _ _ _ _ (by simp)).trans h1.c2, World.cell?_setCell_same _ _ _ h1.c3,
    h1.cal.far h.gR h1.calm, h1.mp.far (fun m e => (h1.pR m e).1), h1.ma.far (fun m e => (h1.qR m e).1), hm.far (fun m e => (hp' m e).1), h.tp, h.ta, hty, ⟨h.sz.1, h.sz.2.1, hsz⟩, h.gR, by rw [cg]; exact h1.calm, ?_, ?_, by rw [cg]; exact hp'⟩
  · rw [cg]
    intro m e
    have h2 := h1.pR m e
    refine ⟨h2.1, h2.2.1, h2.2.2.1, h2.2.2.2.1, fun e' => ?_⟩
    exact (hp' m e').2.2.2.1 e
  · rw [cg]
    intro m e
    have h2 := h1.qR m e
    refine ⟨h2.1, h2.2.1, h2.2.2.1, h2.2.2.2.1, fun e' => ?_⟩
    exact (hp' m e').2.2.2.2 e

/-- Block R alone. -/
def Only (R k : Nat) : Prop := k = R
theorem only_set {w w1 : World} {R j : Nat} {u : Value} (hb : Below w.heap.size w w1) : Turns (Only R) w (w1.setCell ⟨R, j, none⟩ u) :=
  (Turns.of_below hb).trans ⟨rfl, rfl, rfl, by simp, fun k _ hn => Below.heap_setCell _ _ _ _ (fun e => hn e)⟩

theorem addL_inv {α : Type} {nm : α → ByteArray} {cl : α → Value} {ah bh : α → Int} {most : Nat} {D0 : DH} (P : DH → Prop) (h0 : P D0) (hs : ∀ D x, P D → stepE (validB (nm x)) (ah x) (hasV D (nm x)) (bh x) (Maps.size D) most = 0 → P (putV D (nm x) (cl x))) :
    ∀ (xs : List α) (D : DH), P D → P (addL nm cl ah bh most D0 D xs).1
  | [], _, h => h
  | x :: r, D, h => by
    rw [addL]
    split
    · rename_i e
      exact addL_inv P h0 hs r _ (hs D x h e)
    · exact h0

theorem step_zero {v h : Bool} {a b : Int} {s m : Nat} (e : stepE v a h b s m = 0) : v = true ∧ a = 0 ∧ h = false ∧ b = 0 ∧ s < m := by
  unfold stepE at e
  cases v
  · simp at e
  · rw [if_neg (by simp)] at e
    by_cases ha : a = 0
    · rw [if_neg (by simpa using ha)] at e
      cases h
      · rw [if_neg (by simp)] at e
        by_cases hb : b = 0
        · rw [if_neg (by simpa using hb)] at e
          by_cases hm : m ≤ s
          · rw [if_pos hm] at e; simp at e
          · exact ⟨rfl, ha, rfl, hb, by omega⟩
        · rw [if_pos hb] at e; exact absurd e hb
      · simp at e
    · rw [if_pos ha] at e; exact absurd e ha

theorem addL_fit {α : Type} {nm : α → ByteArray} {cl : α → Value} {ah bh : α → Int} {most : Nat} {D0 : DH} (hm : most ≤ 1000) (h0 : TextKeys D0 ∧ Typed cl D0 ∧ Maps.size D0 ≤ 1000) (xs : List α) : TextKeys (addL nm cl ah bh most D0 D0 xs).1 ∧ Typed cl (addL nm cl ah bh most D0 D0 xs).1 ∧ Maps.size (addL nm cl ah bh most D0 D0 xs).1 ≤ 1000 :=
  addL_inv (fun D => TextKeys D ∧ Typed cl D ∧ Maps.size D ≤ 1000) h0 (fun D x h e => by
    have hz := step_zero e
    exact ⟨h.1.put _ _, h.2.1.put h.1 _ _, by rw [size_putV h.1]; split <;> omega⟩) xs D0 h0

/-- What an adding method leaves. -/
def SetPost (R : Nat) (F2 : Int) (w : World) (Q : World → Prop) (e : Ending) (w' : World) : Prop := e = .returned (.int .i64 F2) ∧ Q w' ∧ Turns (Only R) w w'

set_option maxRecDepth 100000 in
set_option maxHeartbeats 1600000 in
theorem addP_any {R g : Nat} {p q r : Option Nat} {d : Dat} (v : Value) (xs : List Pty) (w : World) (h : RefAt w R g p q r d) (hv : PtysAt w v xs) :
    Calls Try.prog 12 #[.pointer (some ⟨R, 0, none⟩), v] w
      (SetPost R (addL Pty.name Pty.val aheadP behindP 20 d.p d.p xs).2 w (fun w' => ∃ p', RefAt w' R g p' q r ⟨(addL Pty.name Pty.val aheadP behindP 20 d.p d.p xs).1, d.a, d.s⟩ ∧ (p' = p ∨ ∃ m, p' = some m ∧ w.heap.size ≤ m))) := by
  have HA := Lib.hid (addedP_any p d.p v xs w h.mp h.tp hv h.sz.1)
  have hfit := addL_fit (nm := Pty.name) (ah := aheadP) (bh := behindP) (most := 20) (by omega) ⟨h.mp.keys, h.tp, h.sz.1⟩ xs
  obtain ⟨F, hF⟩ : ∃ F, F = addL Pty.name Pty.val aheadP behindP 20 d.p d.p xs := ⟨_, rfl⟩
  rw [← hF] at HA hfit ⊢
  have HFIT := Lib.hid hfit
  have HR := Lib.hid h
  have c1 := h.c1
  clear hF hfit h hv
  go_enter Try.func12, Try.ntmps12
  go_wp2_with fail
  refine HA.out.mono ?_
  rintro e w1 ⟨hb1, p', rfl, hm1, hcase⟩
  have hfz : w1.frozen? ⟨R, 1, none⟩ = false := (hb1.frozen (p := ⟨R, 1, none⟩) HR.out.lt).trans (HR.out.frz 1)
  have hc1 : w1.cell? ⟨R, 1, none⟩ = some (.map p) := (hb1.cell (p := ⟨R, 1, none⟩) HR.out.lt).trans HR.out.c1
  have HCA := Lib.hid (show p' = p ∨ ∃ m, p' = some m ∧ w.heap.size ≤ m by rcases hcase with ⟨_, h, _⟩ | ⟨_, m, h, h2⟩; exact .inl h; exact .inr ⟨m, h, h2⟩)
  have HQ := Lib.hid (HR.out.setP hb1 hm1 HFIT.out.2.1 HFIT.out.2.2 (by rcases hcase with ⟨_, h, _⟩ | ⟨_, m, h, h2⟩; exact .inl h; exact .inr ⟨m, h, h2⟩))
  have HT := Lib.hid (only_set (R := R) (j := 1) (u := .map p') hb1)
  clear hcase hm1 hb1 c1
  go_wp2
  go_ret
  exact ⟨rfl, ⟨p', HQ.out, HCA.out⟩, HT.out⟩

set_option maxRecDepth 100000 in
set_option maxHeartbeats 1600000 in
theorem addS_any {R g : Nat} {p q r : Option Nat} {d : Dat} (v : Value) (xs : List Ast) (w : World) (h : RefAt w R g p q r d) (hv : AstsAt w v xs) :
    Calls Try.prog 9 #[.pointer (some ⟨R, 0, none⟩), v] w
      (SetPost R (addL Ast.name Ast.val aheadS behindS 12 d.s d.s xs).2 w (fun w' => ∃ r', RefAt w' R g p q r' ⟨d.p, d.a, (addL Ast.name Ast.val aheadS behindS 12 d.s d.s xs).1⟩ ∧ (r' = r ∨ ∃ m, r' = some m ∧ w.heap.size ≤ m))) := by
  have HA := Lib.hid (addedS_any r d.s v xs w h.ms h.ts hv h.sz.2.2)
  have hfit := addL_fit (nm := Ast.name) (ah := aheadS) (bh := behindS) (most := 12) (by omega) ⟨h.ms.keys, h.ts, h.sz.2.2⟩ xs
  obtain ⟨F, hF⟩ : ∃ F, F = addL Ast.name Ast.val aheadS behindS 12 d.s d.s xs := ⟨_, rfl⟩
  rw [← hF] at HA hfit ⊢
  have HFIT := Lib.hid hfit
  have HR := Lib.hid h
  have c1 := h.c3
  clear hF hfit h hv
  go_enter Try.func9, Try.ntmps9
  go_wp2_with fail
  refine HA.out.mono ?_
  rintro e w1 ⟨hb1, p', rfl, hm1, hcase⟩
  have hfz : w1.frozen? ⟨R, 3, none⟩ = false := (hb1.frozen (p := ⟨R, 3, none⟩) HR.out.lt).trans (HR.out.frz 3)
  have hc1 : w1.cell? ⟨R, 3, none⟩ = some (.map r) := (hb1.cell (p := ⟨R, 3, none⟩) HR.out.lt).trans HR.out.c3
  have HCA := Lib.hid (show p' = r ∨ ∃ m, p' = some m ∧ w.heap.size ≤ m by rcases hcase with ⟨_, h, _⟩ | ⟨_, m, h, h2⟩; exact .inl h; exact .inr ⟨m, h, h2⟩)
  have HQ := Lib.hid (HR.out.setS hb1 hm1 HFIT.out.2.1 HFIT.out.2.2 (by rcases hcase with ⟨_, h, _⟩ | ⟨_, m, h, h2⟩; exact .inl h; exact .inr ⟨m, h, h2⟩))
  have HT := Lib.hid (only_set (R := R) (j := 3) (u := .map p') hb1)
  clear hcase hm1 hb1 c1
  go_wp2
  go_ret
  exact ⟨rfl, ⟨p', HQ.out, HCA.out⟩, HT.out⟩

set_option maxRecDepth 100000 in
set_option maxHeartbeats 1600000 in
theorem addQ_any {R g : Nat} {p q r : Option Nat} {d : Dat} (v : Value) (xs : List Acc) (w : World) (h : RefAt w R g p q r d) (hv : AccsAt w v xs) :
    Calls Try.prog 13 #[.pointer (some ⟨R, 0, none⟩), v] w
      (SetPost R (addL Acc.name Acc.val (aheadQ d.p) behindQ 20 d.a d.a xs).2 w (fun w' => ∃ q', RefAt w' R g p q' r ⟨d.p, (addL Acc.name Acc.val (aheadQ d.p) behindQ 20 d.a d.a xs).1, d.s⟩ ∧ (q' = q ∨ ∃ m, q' = some m ∧ w.heap.size ≤ m))) := by
  have hb0 : Below w.heap.size w (w.alloc (.cells #[.pointer (some ⟨R, 0, none⟩)] 24)) := (Below.refl _ w).alloc (Nat.le_refl _) _
  have h0 := h.below hb0
  have hask : Asks (w.alloc (.cells #[.pointer (some ⟨R, 0, none⟩)] 24)) w.heap.size R p d.p :=
    ⟨by simp, h0.c1, h0.mp, fun s z hs => by obtain ⟨x, hx⟩ := h.tp s z hs; exact ⟨x.name, x.limit, hx⟩, by simp, h0.lt⟩
  have HA := Lib.hid (addedQ_any q d.a v xs _ w.heap.size R p d.p hask h0.ma h0.ta (hv.below hb0) h0.sz.2.1)
  have hfit := addL_fit (nm := Acc.name) (ah := aheadQ d.p) (bh := behindQ) (most := 20) (by omega) ⟨h.ma.keys, h.ta, h.sz.2.1⟩ xs
  obtain ⟨F, hF⟩ : ∃ F, F = addL Acc.name Acc.val (aheadQ d.p) behindQ 20 d.a d.a xs := ⟨_, rfl⟩
  rw [← hF] at HA hfit ⊢
  have HFIT := Lib.hid hfit
  have HR := Lib.hid h
  have HB0 := Lib.hid hb0
  have c1 := h0.c2
  have hlt := h.lt
  clear hF hfit h hv h0 hask hb0
  go_enter Try.func13, Try.ntmps13
  go_wp2_with fail
  refine HA.out.mono ?_
  rintro e w1 ⟨hb1, p', rfl, hm1, hcase⟩
  have hbw : Below w.heap.size w w1 := HB0.out.trans (hb1.mono (by simp))
  have hbx : w1.cell? ⟨w.heap.size, 0, none⟩ = some (.pointer (some ⟨R, 0, none⟩)) := (hb1.cell (p := ⟨w.heap.size, 0, none⟩) (by simp)).trans (by simp)
  have hfz : w1.frozen? ⟨R, 2, none⟩ = false := (hbw.frozen (p := ⟨R, 2, none⟩) HR.out.lt).trans (HR.out.frz 2)
  have hc1 : w1.cell? ⟨R, 2, none⟩ = some (.map q) := (hbw.cell (p := ⟨R, 2, none⟩) HR.out.lt).trans HR.out.c2
  have HCA := Lib.hid (show p' = q ∨ ∃ m, p' = some m ∧ w.heap.size ≤ m by rcases hcase with ⟨_, h, _⟩ | ⟨_, m, h, h2⟩; exact .inl h; exact .inr ⟨m, h, by simp at h2; omega⟩)
  have HQ := Lib.hid (HR.out.setA hbw hm1 HFIT.out.2.1 HFIT.out.2.2 (by rcases hcase with ⟨_, h, _⟩ | ⟨_, m, h, h2⟩; exact .inl h; exact .inr ⟨m, h, by simp at h2; omega⟩))
  have HT := Lib.hid (only_set (R := R) (j := 2) (u := .map p') hbw)
  clear hcase hm1 hb1 c1 hbw
  go_wp2
  go_ret
  exact ⟨rfl, ⟨p', HQ.out, HCA.out⟩, HT.out⟩

end Go.Proofs.Ytohlmegbndgedaa
