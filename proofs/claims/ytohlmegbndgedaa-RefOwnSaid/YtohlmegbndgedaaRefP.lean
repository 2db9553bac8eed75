/-
  ref: rows of parties that come in; what is added of them.
-/
import Derived.Test.YtohlmegbndgedaaRefB
namespace Go.Proofs.Ytohlmegbndgedaa
open Go.ChangeShapes Go.WideShapes Go.ChangeAt Go.RowKit Go.Deep Go.Maps Go.WideMaps Held

structure Pty where
  name : ByteArray
  limit : Int
def Pty.cells (x : Pty) : List Value := [.string x.name, .int .i64 x.limit]
def Pty.val (x : Pty) : Value := .agg #[.string x.name, .int .i64 x.limit]
def pty0 : Pty := ⟨ByteArray.empty, 0⟩
def Pty.wf (x : Pty) : Prop := x.name.size ≤ maxLen ∧ i64 x.limit

/-- The slice v reads as the rows xs. -/
def PtysAt (w : World) (v : Value) (xs : List Pty) : Prop :=
  ∃ a c, v = .slice a xs.length c ∧ xs.length * 24 ≤ 140737488351232 ∧ (∀ x ∈ xs, x.wf) ∧ (xs = [] ∨ ∃ b off, a = some ⟨b, off, none⟩ ∧ b < w.heap.size ∧ ∀ i j, i < xs.length → j < 2 → w.cell? ⟨b, off + i * 2 + j, none⟩ = (xs.getD i pty0).cells[j]?)
theorem PtysAt.below {w w' : World} {v : Value} {xs : List Pty} (hv : PtysAt w v xs) (hb : Below w.heap.size w w') : PtysAt w' v xs := by
  obtain ⟨a, c, h1, h2, h3, h4⟩ := hv
  refine ⟨a, c, h1, h2, h3, ?_⟩
  rcases h4 with h4 | ⟨b, off, e, hlt, hc⟩
  · exact .inl h4
  · exact .inr ⟨b, off, e, by have := hb.size; omega, fun i j hi hj => by rw [hb.cell (p := ⟨b, _, none⟩) hlt]; exact hc i j hi hj⟩

theorem Pty_cells {w : World} {a : Option Addr} {xs : List Pty} {k : Nat} (h : xs = [] ∨ ∃ b off, a = some ⟨b, off, none⟩ ∧ b < w.heap.size ∧ ∀ i j, i < xs.length → j < 2 → w.cell? ⟨b, off + i * 2 + j, none⟩ = (xs.getD i pty0).cells[j]?) (hk : k < xs.length) :
    ∃ b off, a = some ⟨b, off, none⟩ ∧ b < w.heap.size ∧ w.cell? ⟨b, off + k * 2, none⟩ = some (.string (xs.getD k pty0).name) ∧ w.cell? ⟨b, off + k * 2 + 1, none⟩ = some (.int .i64 (xs.getD k pty0).limit) := by
  rcases h with h | ⟨b, off, e, hb, hc⟩
  · rw [h] at hk; simp at hk
  · exact ⟨b, off, e, hb, hc k 0 hk (by omega), hc k 1 hk (by omega)⟩

set_option maxRecDepth 100000 in
theorem cellsPty : Try.prog.cellsOf 37 = 2 := by kernel_rfl
set_option maxRecDepth 100000 in
theorem Pty_row {H : Type} {enc : TypeId × Value → H} {W : World} {base : Nat} {spare : Nat → Bool} {held : Bool} {n : Nat} {cs : List Value} {x : DataW H × List MemPlace} (h : DataW.trod enc Try.prog W base spare held n 37 cs = some x) : ∃ s : Pty, cs = s.cells ∧ s.wf := by
  obtain ⟨ys, n', _, _, hlen, hl0, hf⟩ := DataW.trod_struct Try.underlying37 h
  rw [cellsPty] at hlen
  have onei : Try.prog.cellsOf 3 = 1 := by kernel_rfl
  have ones : Try.prog.cellsOf 9 = 1 := by kernel_rfl
  have get : ∀ i, i < 2 → ∃ z, ys[i]? = some z := fun i hi => ⟨_, List.getElem?_eq_getElem (by rw [hl0]; exact hi)⟩
  have g0 : DataW.trod enc Try.prog W base spare held n' 9 ((cs.drop 0).take (Try.prog.cellsOf 9)) = ys[0]? := hf 0 _ rfl
  obtain ⟨z0, e0⟩ := get 0 (by omega)
  rw [ones, e0] at g0
  obtain ⟨s0, c0, _, w0⟩ := DataW.trod_string Try.underlying9 g0
  have b0 := one_at c0
  have g1 : DataW.trod enc Try.prog W base spare held n' 3 ((cs.drop 1).take (Try.prog.cellsOf 3)) = ys[1]? := hf 1 _ rfl
  obtain ⟨z1, e1⟩ := get 1 (by omega)
  rw [onei, e1] at g1
  obtain ⟨s1, c1, _, w1⟩ := DataW.trod_int Try.underlying3 g1
  have b1 := one_at c1
  refine ⟨⟨s0, s1⟩, ?_, w0, i64_of w1⟩
  match cs, hlen with
  | [a0, a1], _ =>
    simp at b0 b1
    subst b0 b1
    rfl

set_option maxRecDepth 100000 in
theorem Ptys_open {H : Type} {enc : TypeId × Value → H} {W : World} {base : Nat} {v : Value} {d : DataW H} {p : List MemPlace} {ts : List TypeId} {ds : List (DataW H)} {j : Nat}
    (h : DataW.Trod enc Try.prog W 0 (fun _ => true) true 33 v d p) (hlt : ∀ x ∈ p, x.block < W.heap.size) (hok : Value.okWide Try.prog W .any base 33 v)
    (hsz : (DataW.weightsEach Try.prog ts ds).all (· ≤ reachBytes) = true) (ht : ts[j]? = some 33) (hd : ds[j]? = some d) : ∃ xs, PtysAt W v xs := by
  obtain ⟨a0, len, cap, rfl⟩ := okWide_slice Try.underlying33 hok
  obtain ⟨fuel, hf⟩ := h
  rcases open_slice Try.underlying33 hf with ⟨hcs, _⟩ | ⟨x, l, c, m, n, D, Pl, hcs, _, hl, hm, hmm, hx, hi⟩
  · simp [Value.cells] at hcs
    obtain ⟨rfl, rfl, rfl⟩ := hcs
    exact ⟨[], none, 0, rfl, by simp, by simp, .inl rfl⟩
  · simp [Value.cells] at hcs
    obtain ⟨rfl, rfl, rfl⟩ := hcs
    simp only [Prod.mk.injEq] at hx
    obtain ⟨rfl, rfl⟩ := hx
    simp only [if_true] at hmm
    subst hmm
    have hby : Try.prog.bytesOf 37 = 24 := by kernel_rfl
    have hreach := sized_slice hsz ht hd Try.underlying33
    rw [hby] at hreach
    simp only [List.length_map, List.length_range, reachBytes] at hreach
    rw [cellsPty] at hi
    have hc : ∀ i, i < len → ∃ s : Pty, s.wf ∧ ∀ j, j < 2 → W.cell? ((x.add (i * 2)).add j) = s.cells[j]? := fun i hil => by
      obtain ⟨cs', h1, h2⟩ := hi i (by omega)
      obtain ⟨s, rfl, hw⟩ := Pty_row h2
      obtain ⟨_, _, hat⟩ := World.cells?_some h1
      exact ⟨s, hw, hat⟩
    have : Inhabited Pty := ⟨pty0⟩
    obtain ⟨f, hfs⟩ := choose_lt hc
    have hlen : ((List.range len).map f).length = len := by simp
    refine ⟨(List.range len).map f, some x, _, by rw [hlen], by rw [hlen]; omega, fun y hy => ?_, ?_⟩
    · obtain ⟨i, hi2, rfl⟩ := List.mem_map.1 hy
      exact (hfs i (List.mem_range.1 hi2)).1
    · by_cases hl0 : len = 0
      · left; subst hl0; rfl
      · right
        obtain ⟨b, off, spot⟩ := x
        have h00 := (hfs 0 (by omega)).2 0 (by omega)
        have hspot : spot = none := by
          have := World.cell?_spot (h00.trans (show (f 0).cells[0]? = some _ from rfl))
          simpa [Addr.add] using this
        subst hspot
        refine ⟨b, off, rfl, hlt (.cell b off) (List.mem_append_left _ (MemPlace.mem_row.2 ⟨0, by rw [cellsPty]; omega, by simp⟩)), fun i j hi2 hj => ?_⟩
        rw [hlen] at hi2
        have := (hfs i hi2).2 j hj
        rw [Go.Deep.add_add, add_plain] at this
        rw [Nat.add_assoc, this]
        simp [List.getD, hi2]

set_option maxRecDepth 100000 in
theorem zeroPtyV (w : World) : (zeroValue 37).run Try.prog w = .ok (pty0.val) w := by kernel_rfl
theorem keyP_any (g : Nat) (w : World) : Calls Try.prog 33 #[.pointer (some ⟨g, 0, none⟩)] w fun e w' => e = .returned (.pointer (some ⟨g, 0, none⟩)) ∧ w = w' := by
  go_enter Try.func33, Try.ntmps33
  go_wp2
  go_ret
  exact ⟨rfl, rfl⟩

set_option maxRecDepth 100000 in
theorem cloneMP (b : Nat) (D : DH) (w : World) (h : MapH Try.prog 9 w b D) :
    Calls Try.prog 52 #[.map (some b)] w fun e w' => e = .returned (.map (some w.heap.size)) ∧ MapH Try.prog 9 w' w.heap.size D ∧ Below w.heap.size w w' := by
  obtain ⟨⟨es, clock, hb, F, hs, hD⟩, hk⟩ := h
  have main : Calls Try.prog 52 #[.map (some b)] w fun e w' => e = .returned (.map (some w.heap.size)) ∧ w' = w.alloc (.map es clock) := by
    clear F hs hD hk
    have hq := fun w => run_eql_map_nil_sl (P := Try.prog) w 57 _ _ (some b) Try.underlying57
    go_enter Try.func52, Try.ntmps52
    go_wp2
    rw [run_callFunc_extern Try.func61 (by kernel_rfl) (by kernel_rfl) (by kernel_rfl) (e := Extern.MapsClone.clone) (by kernel_rfl), run_maps_clone_sl w 57 hb]
    simp only [Result.andThen]
    rw [Oper.upon_value]
    go_wp2
    rw [run_typeAssert_map_sl _ 57 20 _ _ _ Try.underlying57]
    simp only [Result.andThen]
    rw [Oper.upon_value]
    go_wp2
    go_ret
    exact ⟨rfl, rfl⟩
  refine main.mono fun e w' ⟨he, hw⟩ => ?_
  subst hw
  exact ⟨he, ⟨⟨es, clock, (MapKept.heap_alloc w _).1, F, hs, hD⟩, hk⟩, (Below.refl _ w).alloc (Nat.le_refl _) _⟩

set_option maxRecDepth 100000 in
theorem cloneNP (w : World) : Calls Try.prog 52 #[.map none] w fun e w' => e = .returned (.map none) ∧ w = w' := by
  have hq := fun w => run_eql_map_nil_sl (P := Try.prog) w 57 _ _ none Try.underlying57
  go_enter Try.func52, Try.ntmps52
  go_wp2
  go_ret
  exact ⟨rfl, rfl⟩


def aheadP (_ : Pty) : Int := 0
def behindP (x : Pty) : Int := rightE (inB x.limit 0 1152921504606846976)

theorem aheadP_any (x : Pty) (w : World) : Calls Try.prog 34 #[.agg #[.string x.name, .int .i64 x.limit]] w fun e w' => e = .returned (.int .i64 (aheadP x)) ∧ Below w.heap.size w w' := by
  go_enter Try.func34, Try.ntmps34
  go_wp2
  go_ret
  exact ⟨rfl, by first | exact Below.refl _ _ | exact (Below.refl _ _).alloc (Nat.le_refl _) _⟩

theorem behindP_any (x : Pty) (w : World) : Calls Try.prog 35 #[.agg #[.string x.name, .int .i64 x.limit]] w fun e w' => e = .returned (.int .i64 (behindP x)) ∧ Below w.heap.size w w' := by
  go_enter Try.func35, Try.ntmps35
  go_wp2_with (first
    | (go_at_call 36; refine (in_any _ _ _ _).mono ?_; rintro e w' ⟨rfl, rfl⟩)
    | (go_at_call 29; refine (right_any _ _).mono ?_; rintro e w' ⟨rfl, rfl⟩))
  go_ret
  exact ⟨rfl, (Below.refl _ _).alloc (Nat.le_refl _) _⟩

end Go.Proofs.Ytohlmegbndgedaa
