/-
  ref: rows of assets that come in; what is added of them.
-/
import Derived.Test.YtohlmegbndgedaaRefB
namespace Go.Proofs.Ytohlmegbndgedaa
open Go.ChangeShapes Go.WideShapes Go.ChangeAt Go.RowKit Go.Deep Go.Maps Go.WideMaps Held

structure Ast where
  name : ByteArray
  cash : Bool
  pledge : Bool
  unit : Int
  least : Int
  price : Int
  cut : Int
  close : Int
def Ast.cells (x : Ast) : List Value := [.string x.name, .bool x.cash, .bool x.pledge, .int .i64 x.unit, .int .i64 x.least, .int .i64 x.price, .int .i64 x.cut, .int .i64 x.close]
def Ast.val (x : Ast) : Value := .agg #[.string x.name, .bool x.cash, .bool x.pledge, .int .i64 x.unit, .int .i64 x.least, .int .i64 x.price, .int .i64 x.cut, .int .i64 x.close]
def ast0 : Ast := ⟨ByteArray.empty, false, false, 0, 0, 0, 0, 0⟩
def Ast.wf (x : Ast) : Prop := x.name.size ≤ maxLen ∧ i64 x.unit ∧ i64 x.least ∧ i64 x.price ∧ i64 x.cut ∧ i64 x.close

/-- The slice v reads as the rows xs. -/
def AstsAt (w : World) (v : Value) (xs : List Ast) : Prop :=
  ∃ a c, v = .slice a xs.length c ∧ xs.length * 64 ≤ 140737488351232 ∧ (∀ x ∈ xs, x.wf) ∧ (xs = [] ∨ ∃ b off, a = some ⟨b, off, none⟩ ∧ b < w.heap.size ∧ ∀ i j, i < xs.length → j < 8 → w.cell? ⟨b, off + i * 8 + j, none⟩ = (xs.getD i ast0).cells[j]?)
theorem AstsAt.below {w w' : World} {v : Value} {xs : List Ast} (hv : AstsAt w v xs) (hb : Below w.heap.size w w') : AstsAt w' v xs := by
  obtain ⟨a, c, h1, h2, h3, h4⟩ := hv
  refine ⟨a, c, h1, h2, h3, ?_⟩
  rcases h4 with h4 | ⟨b, off, e, hlt, hc⟩
  · exact .inl h4
  · exact .inr ⟨b, off, e, by have := hb.size; omega, fun i j hi hj => by rw [hb.cell (p := ⟨b, _, none⟩) hlt]; exact hc i j hi hj⟩

theorem Ast_cells {w : World} {a : Option Addr} {xs : List Ast} {k : Nat} (h : xs = [] ∨ ∃ b off, a = some ⟨b, off, none⟩ ∧ b < w.heap.size ∧ ∀ i j, i < xs.length → j < 8 → w.cell? ⟨b, off + i * 8 + j, none⟩ = (xs.getD i ast0).cells[j]?) (hk : k < xs.length) :
    ∃ b off, a = some ⟨b, off, none⟩ ∧ b < w.heap.size ∧ w.cell? ⟨b, off + k * 8, none⟩ = some (.string (xs.getD k ast0).name) ∧ w.cell? ⟨b, off + k * 8 + 1, none⟩ = some (.bool (xs.getD k ast0).cash) ∧ w.cell? ⟨b, off + k * 8 + 2, none⟩ = some (.bool (xs.getD k ast0).pledge) ∧ w.cell? ⟨b, off + k * 8 + 3, none⟩ = some (.int .i64 (xs.getD k ast0).unit) ∧ w.cell? ⟨b, off + k * 8 + 4, none⟩ = some (.int .i64 (xs.getD k ast0).least) ∧ w.cell? ⟨b, off + k * 8 + 5, none⟩ = some (.int .i64 (xs.getD k ast0).price) ∧ w.cell? ⟨b, off + k * 8 + 6, none⟩ = some (.int .i64 (xs.getD k ast0).cut) ∧ w.cell? ⟨b, off + k * 8 + 7, none⟩ = some (.int .i64 (xs.getD k ast0).close) := by
  rcases h with h | ⟨b, off, e, hb, hc⟩
  · rw [h] at hk; simp at hk
  · exact ⟨b, off, e, hb, hc k 0 hk (by omega), hc k 1 hk (by omega), hc k 2 hk (by omega), hc k 3 hk (by omega), hc k 4 hk (by omega), hc k 5 hk (by omega), hc k 6 hk (by omega), hc k 7 hk (by omega)⟩

set_option maxRecDepth 100000 in
theorem cellsAst : Try.prog.cellsOf 29 = 8 := by kernel_rfl
set_option maxRecDepth 100000 in
theorem Ast_row {H : Type} {enc : TypeId × Value → H} {W : World} {base : Nat} {spare : Nat → Bool} {held : Bool} {n : Nat} {cs : List Value} {x : DataW H × List MemPlace} (h : DataW.trod enc Try.prog W base spare held n 29 cs = some x) : ∃ s : Ast, cs = s.cells ∧ s.wf := by
  obtain ⟨ys, n', _, _, hlen, hl0, hf⟩ := DataW.trod_struct Try.underlying29 h
  rw [cellsAst] at hlen
  have oneb : Try.prog.cellsOf 4 = 1 := by kernel_rfl
  have onei : Try.prog.cellsOf 3 = 1 := by kernel_rfl
  have ones : Try.prog.cellsOf 9 = 1 := by kernel_rfl
  have get : ∀ i, i < 8 → ∃ z, ys[i]? = some z := fun i hi => ⟨_, List.getElem?_eq_getElem (by rw [hl0]; exact hi)⟩
  have g0 : DataW.trod enc Try.prog W base spare held n' 9 ((cs.drop 0).take (Try.prog.cellsOf 9)) = ys[0]? := hf 0 _ rfl
  obtain ⟨z0, e0⟩ := get 0 (by omega)
  rw [ones, e0] at g0
  obtain ⟨s0, c0, _, w0⟩ := DataW.trod_string Try.underlying9 g0
  have b0 := one_at c0
  have g1 : DataW.trod enc Try.prog W base spare held n' 4 ((cs.drop 1).take (Try.prog.cellsOf 4)) = ys[1]? := hf 1 _ rfl
  obtain ⟨z1, e1⟩ := get 1 (by omega)
  rw [oneb, e1] at g1
  obtain ⟨s1, c1, _⟩ := DataW.trod_bool Try.underlying4 g1
  have b1 := one_at c1
  have g2 : DataW.trod enc Try.prog W base spare held n' 4 ((cs.drop 2).take (Try.prog.cellsOf 4)) = ys[2]? := hf 2 _ rfl
  obtain ⟨z2, e2⟩ := get 2 (by omega)
  rw [oneb, e2] at g2
  obtain ⟨s2, c2, _⟩ := DataW.trod_bool Try.underlying4 g2
  have b2 := one_at c2
  have g3 : DataW.trod enc Try.prog W base spare held n' 3 ((cs.drop 3).take (Try.prog.cellsOf 3)) = ys[3]? := hf 3 _ rfl
  obtain ⟨z3, e3⟩ := get 3 (by omega)
  rw [onei, e3] at g3
  obtain ⟨s3, c3, _, w3⟩ := DataW.trod_int Try.underlying3 g3
  have b3 := one_at c3
  have g4 : DataW.trod enc Try.prog W base spare held n' 3 ((cs.drop 4).take (Try.prog.cellsOf 3)) = ys[4]? := hf 4 _ rfl
  obtain ⟨z4, e4⟩ := get 4 (by omega)
  rw [onei, e4] at g4
  obtain ⟨s4, c4, _, w4⟩ := DataW.trod_int Try.underlying3 g4
  have b4 := one_at c4
  have g5 : DataW.trod enc Try.prog W base spare held n' 3 ((cs.drop 5).take (Try.prog.cellsOf 3)) = ys[5]? := hf 5 _ rfl
  obtain ⟨z5, e5⟩ := get 5 (by omega)
  rw [onei, e5] at g5
  obtain ⟨s5, c5, _, w5⟩ := DataW.trod_int Try.underlying3 g5
  have b5 := one_at c5
  have g6 : DataW.trod enc Try.prog W base spare held n' 3 ((cs.drop 6).take (Try.prog.cellsOf 3)) = ys[6]? := hf 6 _ rfl
  obtain ⟨z6, e6⟩ := get 6 (by omega)
  rw [onei, e6] at g6
  obtain ⟨s6, c6, _, w6⟩ := DataW.trod_int Try.underlying3 g6
  have b6 := one_at c6
  have g7 : DataW.trod enc Try.prog W base spare held n' 3 ((cs.drop 7).take (Try.prog.cellsOf 3)) = ys[7]? := hf 7 _ rfl
  obtain ⟨z7, e7⟩ := get 7 (by omega)
  rw [onei, e7] at g7
  obtain ⟨s7, c7, _, w7⟩ := DataW.trod_int Try.underlying3 g7
  have b7 := one_at c7
  refine ⟨⟨s0, s1, s2, s3, s4, s5, s6, s7⟩, ?_, w0, i64_of w3, i64_of w4, i64_of w5, i64_of w6, i64_of w7⟩
  match cs, hlen with
  | [a0, a1, a2, a3, a4, a5, a6, a7], _ =>
    simp at b0 b1 b2 b3 b4 b5 b6 b7
    subst b0 b1 b2 b3 b4 b5 b6 b7
    rfl

set_option maxRecDepth 100000 in
theorem Asts_open {H : Type} {enc : TypeId × Value → H} {W : World} {base : Nat} {v : Value} {d : DataW H} {p : List MemPlace} {ts : List TypeId} {ds : List (DataW H)} {j : Nat}
    (h : DataW.Trod enc Try.prog W 0 (fun _ => true) true 22 v d p) (hlt : ∀ x ∈ p, x.block < W.heap.size) (hok : Value.okWide Try.prog W .any base 22 v)
    (hsz : (DataW.weightsEach Try.prog ts ds).all (· ≤ reachBytes) = true) (ht : ts[j]? = some 22) (hd : ds[j]? = some d) : ∃ xs, AstsAt W v xs := by
  obtain ⟨a0, len, cap, rfl⟩ := okWide_slice Try.underlying22 hok
  obtain ⟨fuel, hf⟩ := h
  rcases open_slice Try.underlying22 hf with ⟨hcs, _⟩ | ⟨x, l, c, m, n, D, Pl, hcs, _, hl, hm, hmm, hx, hi⟩
  · simp [Value.cells] at hcs
    obtain ⟨rfl, rfl, rfl⟩ := hcs
    exact ⟨[], none, 0, rfl, by simp, by simp, .inl rfl⟩
  · simp [Value.cells] at hcs
    obtain ⟨rfl, rfl, rfl⟩ := hcs
    simp only [Prod.mk.injEq] at hx
    obtain ⟨rfl, rfl⟩ := hx
    simp only [if_true] at hmm
    subst hmm
    have hby : Try.prog.bytesOf 29 = 64 := by kernel_rfl
    have hreach := sized_slice hsz ht hd Try.underlying22
    rw [hby] at hreach
    simp only [List.length_map, List.length_range, reachBytes] at hreach
    rw [cellsAst] at hi
    have hc : ∀ i, i < len → ∃ s : Ast, s.wf ∧ ∀ j, j < 8 → W.cell? ((x.add (i * 8)).add j) = s.cells[j]? := fun i hil => by
      obtain ⟨cs', h1, h2⟩ := hi i (by omega)
      obtain ⟨s, rfl, hw⟩ := Ast_row h2
      obtain ⟨_, _, hat⟩ := World.cells?_some h1
      exact ⟨s, hw, hat⟩
    have : Inhabited Ast := ⟨ast0⟩
    obtain ⟨f, hfs⟩ := choose_lt hc
    have hlen : ((List.range len).map f).length = len := by simp
    refine ⟨(List.range len).map f, some x, _, by rw [hlen], by rw [hlen]; omega, fun y hy => ?_, ?_⟩
    · obtain ⟨i, hi2, rfl⟩ := List.mem_map.1 hy
      exact (hfs i (List.mem_range.1 hi2)).1
    · by_cases hl0 : len = 0
      · left; subst hl0; rfl
      · right
        obtain ⟨b, off, spot⟩ := x
        have h00 := (hfs 0 (by omega)).2 0 (by omega)
        have hspot : spot = none := by
          have := World.cell?_spot (h00.trans (show (f 0).cells[0]? = some _ from rfl))
          simpa [Addr.add] using this
        subst hspot
        refine ⟨b, off, rfl, hlt (.cell b off) (List.mem_append_left _ (MemPlace.mem_row.2 ⟨0, by rw [cellsAst]; omega, by simp⟩)), fun i j hi2 hj => ?_⟩
        rw [hlen] at hi2
        have := (hfs i hi2).2 j hj
        rw [Go.Deep.add_add, add_plain] at this
        rw [Nat.add_assoc, this]
        simp [List.getD, hi2]

set_option maxRecDepth 100000 in
theorem zeroAstV (w : World) : (zeroValue 29).run Try.prog w = .ok (ast0.val) w := by kernel_rfl
theorem keyS_any (g : Nat) (w : World) : Calls Try.prog 26 #[.pointer (some ⟨g, 0, none⟩)] w fun e w' => e = .returned (.pointer (some ⟨g, 0, none⟩)) ∧ w = w' := by
  go_enter Try.func26, Try.ntmps26
  go_wp2
  go_ret
  exact ⟨rfl, rfl⟩

set_option maxRecDepth 100000 in
theorem cloneMS (b : Nat) (D : DH) (w : World) (h : MapH Try.prog 9 w b D) :
    Calls Try.prog 48 #[.map (some b)] w fun e w' => e = .returned (.map (some w.heap.size)) ∧ MapH Try.prog 9 w' w.heap.size D ∧ Below w.heap.size w w' := by
  obtain ⟨⟨es, clock, hb, F, hs, hD⟩, hk⟩ := h
  have main : Calls Try.prog 48 #[.map (some b)] w fun e w' => e = .returned (.map (some w.heap.size)) ∧ w' = w.alloc (.map es clock) := by
    clear F hs hD hk
    have hq := fun w => run_eql_map_nil_sl (P := Try.prog) w 59 _ _ (some b) Try.underlying59
    go_enter Try.func48, Try.ntmps48
    go_wp2
    rw [run_callFunc_extern Try.func61 (by kernel_rfl) (by kernel_rfl) (by kernel_rfl) (e := Extern.MapsClone.clone) (by kernel_rfl), run_maps_clone_sl w 59 hb]
    simp only [Result.andThen]
    rw [Oper.upon_value]
    go_wp2
    rw [run_typeAssert_map_sl _ 59 20 _ _ _ Try.underlying59]
    simp only [Result.andThen]
    rw [Oper.upon_value]
    go_wp2
    go_ret
    exact ⟨rfl, rfl⟩
  refine main.mono fun e w' ⟨he, hw⟩ => ?_
  subst hw
  exact ⟨he, ⟨⟨es, clock, (MapKept.heap_alloc w _).1, F, hs, hD⟩, hk⟩, (Below.refl _ w).alloc (Nat.le_refl _) _⟩

set_option maxRecDepth 100000 in
theorem cloneNS (w : World) : Calls Try.prog 48 #[.map none] w fun e w' => e = .returned (.map none) ∧ w = w' := by
  have hq := fun w => run_eql_map_nil_sl (P := Try.prog) w 59 _ _ none Try.underlying59
  go_enter Try.func48, Try.ntmps48
  go_wp2
  go_ret
  exact ⟨rfl, rfl⟩


def aheadS (_ : Ast) : Int := 0
def canB (x : Ast) : Bool := inB x.unit 1 1099511627776 && inB x.least 1 1099511627776 && decide (x.least % x.unit = 0) && inB x.price 0 1099511627776 && inB x.cut 0 10000 && inB x.close 0 1099511627776 && !(x.cash && x.pledge) && (decide (x.close = 0) || x.cash)
def behindS (x : Ast) : Int := rightE (canB x)

set_option maxHeartbeats 3200000 in
theorem canBe_any (x : Ast) (hx : x.wf) (w : World) : Calls Try.prog 30 #[.agg #[.string x.name, .bool x.cash, .bool x.pledge, .int .i64 x.unit, .int .i64 x.least, .int .i64 x.price, .int .i64 x.cut, .int .i64 x.close]] w fun e w' => e = .returned (.bool (canB x)) ∧ Below w.heap.size w w' := by
  have H1 := Lib.hid (fun W => in_any x.unit 1 1099511627776 W)
  have H2 := Lib.hid (fun W => in_any x.least 1 1099511627776 W)
  have H3 := Lib.hid (fun W => in_any x.price 0 1099511627776 W)
  have H4 := Lib.hid (fun W => in_any x.cut 0 10000 W)
  have H5 := Lib.hid (fun W => in_any x.close 0 1099511627776 W)
  have hc : canB x = (inB x.unit 1 1099511627776 && inB x.least 1 1099511627776 && decide (x.least % x.unit = 0) && inB x.price 0 1099511627776 && inB x.cut 0 10000 && inB x.close 0 1099511627776 && !(x.cash && x.pledge) && (decide (x.close = 0) || x.cash)) := rfl
  obtain ⟨nm, cash, pledge, unit, least, price, cut, close⟩ := x
  obtain ⟨_, wu, wl, _, _, wc⟩ := hx
  simp only at H1 H2 H3 H4 H5 hc wu wl wc ⊢
  have hb1 : inB unit 1 1099511627776 = true → 1 ≤ unit := fun h => by unfold inB at h; simp at h; exact h.1
  have hb2 : inB least 1 1099511627776 = true → 1 ≤ least := fun h => by unfold inB at h; simp at h; exact h.1
  obtain ⟨b1, e1⟩ : ∃ b, b = inB unit 1 1099511627776 := ⟨_, rfl⟩
  obtain ⟨b2, e2⟩ : ∃ b, b = inB least 1 1099511627776 := ⟨_, rfl⟩
  obtain ⟨b3, e3⟩ : ∃ b, b = inB price 0 1099511627776 := ⟨_, rfl⟩
  obtain ⟨b4, e4⟩ : ∃ b, b = inB cut 0 10000 := ⟨_, rfl⟩
  obtain ⟨b5, e5⟩ : ∃ b, b = inB close 0 1099511627776 := ⟨_, rfl⟩
  rw [← e1] at H1 hc hb1
  rw [← e2] at H2 hc hb2
  rw [← e3] at H3 hc
  rw [← e4] at H4 hc
  rw [← e5] at H5 hc
  obtain ⟨m, hm⟩ : ∃ m, m = least % unit := ⟨_, rfl⟩
  rw [← hm] at hc
  obtain ⟨cb, hcb⟩ : ∃ cb, cb = canB ⟨nm, cash, pledge, unit, least, price, cut, close⟩ := ⟨_, rfl⟩
  rw [← hcb] at hc ⊢
  have HC := Lib.hid hc
  clear e1 e2 e3 e4 e5 hcb hc
  unfold i64 at wu wl wc
  cases b1 with
  | false =>
    clear hb1 hb2 hm
    go_enter Try.func30, Try.ntmps30
    go_wp2_with fail
    refine (H1.out _).mono ?_
    rintro e w1 ⟨rfl, rfl⟩
    go_wp2
    go_ret
    exact ⟨by rw [HC.out]; rfl, (Below.refl _ _).alloc (Nat.le_refl _) _⟩
  | true =>
    have hu := hb1 rfl
    have hne : (unit == 0) = false := by simp; omega
    cases b2 with
    | false =>
      clear hb1 hb2 hm
      go_enter Try.func30, Try.ntmps30
      go_wp2_with fail
      refine (H1.out _).mono ?_
      rintro e w1 ⟨rfl, rfl⟩
      go_wp2_with fail
      refine (H2.out _).mono ?_
      rintro e w2 ⟨rfl, rfl⟩
      go_wp2
      go_ret
      exact ⟨by rw [HC.out]; rfl, (Below.refl _ _).alloc (Nat.le_refl _) _⟩
    | true =>
      have hl := hb2 rfl
      have htm : least.tmod unit = m := by rw [hm]; exact Int.tmod_eq_emod_of_nonneg (by omega)
      have hme := hm.symm
      have hmb : 0 ≤ m ∧ m < unit := by rw [hm]; exact ⟨Int.emod_nonneg _ (by omega), Int.emod_lt_of_pos _ (by omega)⟩
      clear hb1 hb2 hm
      by_cases hm0 : m = 0
      · subst hm0
        clear hmb
        cases b3 with
        | false =>
          go_enter Try.func30, Try.ntmps30
          go_wp2_with fail
          refine (H1.out _).mono ?_
          rintro e w1 ⟨rfl, rfl⟩
          go_wp2_with fail
          refine (H2.out _).mono ?_
          rintro e w2 ⟨rfl, rfl⟩
          go_wp2_with fail
          refine (H3.out _).mono ?_
          rintro e w3 ⟨rfl, rfl⟩
          go_wp2
          go_ret
          exact ⟨by rw [HC.out]; rfl, (Below.refl _ _).alloc (Nat.le_refl _) _⟩
        | true =>
          cases b4 with
          | false =>
            go_enter Try.func30, Try.ntmps30
            go_wp2_with fail
            refine (H1.out _).mono ?_
            rintro e w1 ⟨rfl, rfl⟩
            go_wp2_with fail
            refine (H2.out _).mono ?_
            rintro e w2 ⟨rfl, rfl⟩
            go_wp2_with fail
            refine (H3.out _).mono ?_
            rintro e w3 ⟨rfl, rfl⟩
            go_wp2_with fail
            refine (H4.out _).mono ?_
            rintro e w4 ⟨rfl, rfl⟩
            go_wp2
            go_ret
            exact ⟨by rw [HC.out]; rfl, (Below.refl _ _).alloc (Nat.le_refl _) _⟩
          | true =>
            cases b5 with
            | false =>
              go_enter Try.func30, Try.ntmps30
              go_wp2_with fail
              refine (H1.out _).mono ?_
              rintro e w1 ⟨rfl, rfl⟩
              go_wp2_with fail
              refine (H2.out _).mono ?_
              rintro e w2 ⟨rfl, rfl⟩
              go_wp2_with fail
              refine (H3.out _).mono ?_
              rintro e w3 ⟨rfl, rfl⟩
              go_wp2_with fail
              refine (H4.out _).mono ?_
              rintro e w4 ⟨rfl, rfl⟩
              go_wp2_with fail
              refine (H5.out _).mono ?_
              rintro e w5 ⟨rfl, rfl⟩
              go_wp2
              go_ret
              exact ⟨by rw [HC.out]; rfl, (Below.refl _ _).alloc (Nat.le_refl _) _⟩
            | true =>
              by_cases hz : close = 0
              · subst hz
                cases cash <;> cases pledge
                all_goals
                  go_enter Try.func30, Try.ntmps30
                  go_wp2_with fail
                  refine (H1.out _).mono ?_
                  rintro e w1 ⟨rfl, rfl⟩
                  go_wp2_with fail
                  refine (H2.out _).mono ?_
                  rintro e w2 ⟨rfl, rfl⟩
                  go_wp2_with fail
                  refine (H3.out _).mono ?_
                  rintro e w3 ⟨rfl, rfl⟩
                  go_wp2_with fail
                  refine (H4.out _).mono ?_
                  rintro e w4 ⟨rfl, rfl⟩
                  go_wp2_with fail
                  refine (H5.out _).mono ?_
                  rintro e w5 ⟨rfl, rfl⟩
                  go_wp2
                  go_ret
                  exact ⟨by rw [HC.out]; rfl, (Below.refl _ _).alloc (Nat.le_refl _) _⟩
              · have hz1 : (close == 0) = false := by simpa using hz
                have HD := Lib.hid (show decide (close = 0) = false by simpa using hz)
                rw [HD.out] at HC
                clear hz
                cases cash <;> cases pledge
                all_goals
                  go_enter Try.func30, Try.ntmps30
                  go_wp2_with fail
                  refine (H1.out _).mono ?_
                  rintro e w1 ⟨rfl, rfl⟩
                  go_wp2_with fail
                  refine (H2.out _).mono ?_
                  rintro e w2 ⟨rfl, rfl⟩
                  go_wp2_with fail
                  refine (H3.out _).mono ?_
                  rintro e w3 ⟨rfl, rfl⟩
                  go_wp2_with fail
                  refine (H4.out _).mono ?_
                  rintro e w4 ⟨rfl, rfl⟩
                  go_wp2_with fail
                  refine (H5.out _).mono ?_
                  rintro e w5 ⟨rfl, rfl⟩
                  go_wp2
                  go_ret
                  exact ⟨by rw [HC.out]; rfl, (Below.refl _ _).alloc (Nat.le_refl _) _⟩
      · have hm1 : (m == 0) = false := by simpa using hm0
        have HD := Lib.hid (show decide (m = 0) = false by simpa using hm0)
        rw [HD.out] at HC
        obtain ⟨hm2, hm3⟩ := hmb
        clear hm0
        go_enter Try.func30, Try.ntmps30
        go_wp2_with fail
        refine (H1.out _).mono ?_
        rintro e w1 ⟨rfl, rfl⟩
        go_wp2_with fail
        refine (H2.out _).mono ?_
        rintro e w2 ⟨rfl, rfl⟩
        go_wp2
        go_ret
        exact ⟨by rw [HC.out]; rfl, (Below.refl _ _).alloc (Nat.le_refl _) _⟩

theorem aheadS_any (x : Ast) (w : World) : Calls Try.prog 27 #[.agg #[.string x.name, .bool x.cash, .bool x.pledge, .int .i64 x.unit, .int .i64 x.least, .int .i64 x.price, .int .i64 x.cut, .int .i64 x.close]] w fun e w' => e = .returned (.int .i64 (aheadS x)) ∧ Below w.heap.size w w' := by
  go_enter Try.func27, Try.ntmps27
  go_wp2
  go_ret
  exact ⟨rfl, by first | exact Below.refl _ _ | exact (Below.refl _ _).alloc (Nat.le_refl _) _⟩

theorem behindS_any (x : Ast) (hx : x.wf) (w : World) : Calls Try.prog 28 #[.agg #[.string x.name, .bool x.cash, .bool x.pledge, .int .i64 x.unit, .int .i64 x.least, .int .i64 x.price, .int .i64 x.cut, .int .i64 x.close]] w fun e w' => e = .returned (.int .i64 (behindS x)) ∧ Below w.heap.size w w' := by
  have HCB := Lib.hid (fun W => canBe_any x hx W)
  have HD := Lib.hid (show behindS x = rightE (canB x) from rfl)
  rw [HD.out]
  obtain ⟨b, hb⟩ : ∃ b, b = canB x := ⟨_, rfl⟩
  rw [← hb] at HCB ⊢
  clear hb hx HD
  go_enter Try.func28, Try.ntmps28
  go_wp2_with fail
  refine (HCB.out _).mono ?_
  rintro e w1 ⟨rfl, hb1⟩
  go_wp2_with fail
  refine (right_any _ _).mono ?_
  rintro e w2 ⟨rfl, rfl⟩
  go_wp2
  go_ret
  exact ⟨rfl, by first | exact hb1 | exact ((Below.refl _ _).alloc (Nat.le_refl _) _).trans (hb1.mono (by simp))⟩

end Go.Proofs.Ytohlmegbndgedaa
