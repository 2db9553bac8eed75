/-
  Arguments as they come in: what a slice of stocks reads as.
-/
import Derived.Test.YtnehamkpeeadjaaOpen
import Derived.Test.YtnehamkpeeadjaaValH
import Derived.Deep.Slices
import Derived.ChangeSame
namespace Go.Proofs.Ytnehamkpeeadjaa
open Go.ChangeShapes Go.WideShapes Go.ChangeAt Go.RowKit Go.Deep

def Stk.cells (s : Stk) : List Value := [.string s.name, .bool s.cash, .bool s.pledge, .int .i64 s.unit, .int .i64 s.least, .int .i64 s.price, .int .i64 s.cut, .int .i64 s.close, .int .i64 s.qty]
def i64 (n : Int) : Prop := -9223372036854775808 ≤ n ∧ n ≤ 9223372036854775807
def Stk.wf (s : Stk) : Prop := i64 s.unit ∧ i64 s.least ∧ i64 s.price ∧ i64 s.cut ∧ i64 s.close ∧ i64 s.qty
def stk0 : Stk := ⟨ByteArray.empty, false, false, 0, 0, 0, 0, 0, 0⟩

theorem i64_of {n : Int} (h : (Lit.int .i64 n).wf = true) : i64 n := by
  simp [Lit.wf, IntKind.min, IntKind.max, IntKind.signed, IntKind.bits] at h; exact h
theorem i64_wf {n : Int} (h : i64 n) : (Lit.int .i64 n).wf = true := by
  unfold i64 at h
  simp [Lit.wf, IntKind.min, IntKind.max, IntKind.signed, IntKind.bits]; exact h

theorem one_at {cs : List Value} {k : Nat} {v : Value} (h : (cs.drop k).take 1 = [v]) : cs[k]? = some v := by
  rw [← List.head?_drop]
  cases hd : cs.drop k with
  | nil => rw [hd] at h; simp at h
  | cons x r => rw [hd] at h; simp at h; subst h; rfl

/-- The slice v reads as the stocks xs. -/
def StocksAt (w : World) (v : Value) (xs : List Stk) : Prop :=
  ∃ a c, v = .slice a xs.length c ∧ xs.length * 72 ≤ 140737488351232 ∧ (∀ x ∈ xs, x.wf) ∧ (xs = [] ∨ ∃ b off, a = some ⟨b, off, none⟩ ∧ b < w.heap.size ∧ ∀ i j, i < xs.length → j < 9 → w.cell? ⟨b, off + i * 9 + j, none⟩ = (xs.getD i stk0).cells[j]?)

theorem StocksAt.below {w w' : World} {v : Value} {xs : List Stk} (hv : StocksAt w v xs) (hb : Below w.heap.size w w') : StocksAt w' v xs := by
  obtain ⟨a, c, h1, h2, h3, h4⟩ := hv
  refine ⟨a, c, h1, h2, h3, ?_⟩
  rcases h4 with h4 | ⟨b, off, e, hlt, hc⟩
  · exact .inl h4
  · exact .inr ⟨b, off, e, by have := hb.size; omega, fun i j hi hj => by rw [hb.cell (p := ⟨b, _, none⟩) hlt]; exact hc i j hi hj⟩

theorem cellsStk : Try.prog.cellsOf 27 = 9 := by kernel_rfl
theorem cellsAss : Try.prog.cellsOf 25 = 8 := by kernel_rfl

section
variable {H : Type} {enc : TypeId × Value → H} {W : World} {base : Nat} {spare : Nat → Bool} {held : Bool}
theorem stock_cells {n : Nat} {cs : List Value} {x : DataW H × List MemPlace} (h : DataW.trod enc Try.prog W base spare held n 27 cs = some x) : ∃ s : Stk, cs = s.cells ∧ s.wf := by
  obtain ⟨ys, n', _, _, hlen, hl0, hf⟩ := DataW.trod_struct Try.underlying27 h
  rw [cellsStk] at hlen
  have h0 : DataW.trod enc Try.prog W base spare held n' 25 ((cs.drop 0).take (Try.prog.cellsOf 25)) = ys[0]? := hf 0 _ rfl
  have h1 : DataW.trod enc Try.prog W base spare held n' 3 ((cs.drop 8).take (Try.prog.cellsOf 3)) = ys[1]? := hf 1 _ rfl
  rw [cellsAss] at h0
  have hi1 : Try.prog.cellsOf 3 = 1 := by kernel_rfl
  have hs1 : Try.prog.cellsOf 9 = 1 := by kernel_rfl
  have hb1 : Try.prog.cellsOf 4 = 1 := by kernel_rfl
  rw [hi1] at h1
  obtain ⟨y0, hy0⟩ : ∃ y0, ys[0]? = some y0 := ⟨_, List.getElem?_eq_getElem (by rw [hl0]; decide)⟩
  obtain ⟨y1, hy1⟩ : ∃ y1, ys[1]? = some y1 := ⟨_, List.getElem?_eq_getElem (by rw [hl0]; decide)⟩
  rw [hy0] at h0
  rw [hy1] at h1
  obtain ⟨q, hq, _, wq⟩ := DataW.trod_int Try.underlying3 h1
  obtain ⟨zs, n2, _, _, _, hl2, hg⟩ := DataW.trod_struct Try.underlying25 h0
  have get : ∀ i, i < 8 → ∃ z, zs[i]? = some z := fun i hi => ⟨_, List.getElem?_eq_getElem (by rw [hl2]; exact hi)⟩
  obtain ⟨z0, e0⟩ := get 0 (by omega)
  obtain ⟨z1, e1⟩ := get 1 (by omega)
  obtain ⟨z2, e2⟩ := get 2 (by omega)
  obtain ⟨z3, e3⟩ := get 3 (by omega)
  obtain ⟨z4, e4⟩ := get 4 (by omega)
  obtain ⟨z5, e5⟩ := get 5 (by omega)
  obtain ⟨z6, e6⟩ := get 6 (by omega)
  obtain ⟨z7, e7⟩ := get 7 (by omega)
  have g0 : DataW.trod enc Try.prog W base spare held n2 9 ((((cs.drop 0).take 8).drop 0).take (Try.prog.cellsOf 9)) = zs[0]? := hg 0 _ rfl
  have g1 : DataW.trod enc Try.prog W base spare held n2 4 ((((cs.drop 0).take 8).drop 1).take (Try.prog.cellsOf 4)) = zs[1]? := hg 1 _ rfl
  have g2 : DataW.trod enc Try.prog W base spare held n2 4 ((((cs.drop 0).take 8).drop 2).take (Try.prog.cellsOf 4)) = zs[2]? := hg 2 _ rfl
  have g3 : DataW.trod enc Try.prog W base spare held n2 3 ((((cs.drop 0).take 8).drop 3).take (Try.prog.cellsOf 3)) = zs[3]? := hg 3 _ rfl
  have g4 : DataW.trod enc Try.prog W base spare held n2 3 ((((cs.drop 0).take 8).drop 4).take (Try.prog.cellsOf 3)) = zs[4]? := hg 4 _ rfl
  have g5 : DataW.trod enc Try.prog W base spare held n2 3 ((((cs.drop 0).take 8).drop 5).take (Try.prog.cellsOf 3)) = zs[5]? := hg 5 _ rfl
  have g6 : DataW.trod enc Try.prog W base spare held n2 3 ((((cs.drop 0).take 8).drop 6).take (Try.prog.cellsOf 3)) = zs[6]? := hg 6 _ rfl
  have g7 : DataW.trod enc Try.prog W base spare held n2 3 ((((cs.drop 0).take 8).drop 7).take (Try.prog.cellsOf 3)) = zs[7]? := hg 7 _ rfl
  rw [e0] at g0; rw [e1] at g1; rw [e2] at g2; rw [e3] at g3; rw [e4] at g4; rw [e5] at g5; rw [e6] at g6; rw [e7] at g7
  rw [hs1] at g0
  rw [hb1] at g1 g2
  rw [hi1] at g3 g4 g5 g6 g7
  obtain ⟨s0, c0, _, _⟩ := DataW.trod_string Try.underlying9 g0
  obtain ⟨s1, c1, _⟩ := DataW.trod_bool Try.underlying4 g1
  obtain ⟨s2, c2, _⟩ := DataW.trod_bool Try.underlying4 g2
  obtain ⟨s3, c3, _, w3⟩ := DataW.trod_int Try.underlying3 g3
  obtain ⟨s4, c4, _, w4⟩ := DataW.trod_int Try.underlying3 g4
  obtain ⟨s5, c5, _, w5⟩ := DataW.trod_int Try.underlying3 g5
  obtain ⟨s6, c6, _, w6⟩ := DataW.trod_int Try.underlying3 g6
  obtain ⟨s7, c7, _, w7⟩ := DataW.trod_int Try.underlying3 g7
  refine ⟨⟨s0, s1, s2, s3, s4, s5, s6, s7, q⟩, ?_, i64_of w3, i64_of w4, i64_of w5, i64_of w6, i64_of w7, i64_of wq⟩
  have hq' := one_at hq
  have tk : ∀ (k : Nat) (v : Value), k < 8 → ((cs.drop 0).take 8)[k]? = some v → cs[k]? = some v := fun k v hk hv => by
    rw [List.drop_zero, List.getElem?_take_of_lt hk] at hv; exact hv
  have b0 := tk _ _ (by decide) (one_at c0)
  have b1 := tk _ _ (by decide) (one_at c1)
  have b2 := tk _ _ (by decide) (one_at c2)
  have b3 := tk _ _ (by decide) (one_at c3)
  have b4 := tk _ _ (by decide) (one_at c4)
  have b5 := tk _ _ (by decide) (one_at c5)
  have b6 := tk _ _ (by decide) (one_at c6)
  have b7 := tk _ _ (by decide) (one_at c7)
  match cs, hlen with
  | [a0, a1, a2, a3, a4, a5, a6, a7, a8], _ =>
    simp at b0 b1 b2 b3 b4 b5 b6 b7 hq'
    subst b0 b1 b2 b3 b4 b5 b6 b7 hq'
    rfl
end

theorem stocks_open {H : Type} {enc : TypeId × Value → H} {W : World} {base : Nat} {v : Value} {d : DataW H} {p : List MemPlace} {ts : List TypeId} {ds : List (DataW H)} {j : Nat}
    (h : DataW.Trod enc Try.prog W 0 (fun _ => true) true 22 v d p) (hlt : ∀ x ∈ p, x.block < W.heap.size) (hok : Value.okWide Try.prog W .any base 22 v)
    (hsz : (DataW.weightsEach Try.prog ts ds).all (· ≤ reachBytes) = true) (ht : ts[j]? = some 22) (hd : ds[j]? = some d) : ∃ xs, StocksAt W v xs := by
  obtain ⟨a0, len, cap, rfl⟩ := okWide_slice Try.underlying22 hok
  obtain ⟨fuel, hf⟩ := h
  rcases open_slice Try.underlying22 hf with ⟨hcs, _⟩ | ⟨x, l, c, m, n, D, Pl, hcs, _, hl, hm, hmm, hx, hi⟩
  · simp [Value.cells] at hcs
    obtain ⟨rfl, rfl, rfl⟩ := hcs
    exact ⟨[], none, 0, rfl, by simp, by simp, .inl rfl⟩
  · simp [Value.cells] at hcs
    obtain ⟨rfl, rfl, rfl⟩ := hcs
    simp only [Prod.mk.injEq] at hx
    obtain ⟨rfl, rfl⟩ := hx
    simp only [if_true] at hmm
    subst hmm
    have hb72 : Try.prog.bytesOf 27 = 72 := by kernel_rfl
    have hreach := sized_slice hsz ht hd Try.underlying22
    rw [hb72] at hreach
    simp only [List.length_map, List.length_range, reachBytes] at hreach
    rw [cellsStk] at hi
    have hc : ∀ i, i < len → ∃ s : Stk, s.wf ∧ ∀ j, j < 9 → W.cell? ((x.add (i * 9)).add j) = s.cells[j]? := fun i hil => by
      obtain ⟨cs', h1, h2⟩ := hi i (by omega)
      obtain ⟨s, rfl, hw⟩ := stock_cells h2
      obtain ⟨_, _, hat⟩ := World.cells?_some h1
      exact ⟨s, hw, hat⟩
    have : Inhabited Stk := ⟨stk0⟩
    obtain ⟨f, hfs⟩ := choose_lt hc
    have hlen : ((List.range len).map f).length = len := by simp
    refine ⟨(List.range len).map f, some x, _, by rw [hlen], by rw [hlen]; omega, fun y hy => ?_, ?_⟩
    · obtain ⟨i, hi2, rfl⟩ := List.mem_map.1 hy
      exact (hfs i (List.mem_range.1 hi2)).1
    · by_cases hl0 : len = 0
      · left; subst hl0; rfl
      · right
        obtain ⟨b, off, spot⟩ := x
        have h00 := (hfs 0 (by omega)).2 0 (by omega)
        have hspot : spot = none := by
          have := World.cell?_spot (h00.trans (show (f 0).cells[0]? = some _ from rfl))
          simpa [Addr.add] using this
        subst hspot
        refine ⟨b, off, rfl, hlt (.cell b off) (List.mem_append_left _ (MemPlace.mem_row.2 ⟨0, by rw [cellsStk]; omega, by simp⟩)), fun i j hi2 hj => ?_⟩
        rw [hlen] at hi2
        have := (hfs i hi2).2 j hj
        rw [Go.Deep.add_add, add_plain] at this
        rw [Nat.add_assoc, this]
        simp [List.getD, hi2]

end Go.Proofs.Ytnehamkpeeadjaa
