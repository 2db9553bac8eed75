/-
  The walk of ValueMerges.
-/
import Derived.Test.YtnehamkpeeadjaaValT
namespace Go.Proofs.Ytnehamkpeeadjaa
open Go.ChangeShapes Go.WideShapes Go.ChangeAt Go.RowKit Go.Deep Held

/-- The slice v reads as the pledges ps that came in. -/
def PlIn (w : World) (v : Value) (ps : List Pl) : Prop := PlAt w v ps ∧ PlWf ps

theorem cellsPl : Try.prog.cellsOf 36 = 2 := by kernel_rfl

theorem pledge_cells {H : Type} {enc : TypeId × Value → H} {W : World} {base : Nat} {spare : Nat → Bool} {held : Bool} {n : Nat} {cs : List Value} {x : DataW H × List MemPlace} (h : DataW.trod enc Try.prog W base spare held n 36 cs = some x) : ∃ p : Pl, cs = [.string p.1, .int .i64 p.2] ∧ i64 p.2 ∧ p.1.size ≤ maxLen := by
  obtain ⟨ys, n', _, _, hlen, hl0, hf⟩ := DataW.trod_struct Try.underlying36 h
  rw [cellsPl] at hlen
  have hi1 : Try.prog.cellsOf 3 = 1 := by kernel_rfl
  have hs1 : Try.prog.cellsOf 9 = 1 := by kernel_rfl
  have h0 : DataW.trod enc Try.prog W base spare held n' 9 ((cs.drop 0).take (Try.prog.cellsOf 9)) = ys[0]? := hf 0 _ rfl
  have h1 : DataW.trod enc Try.prog W base spare held n' 3 ((cs.drop 1).take (Try.prog.cellsOf 3)) = ys[1]? := hf 1 _ rfl
  rw [hs1] at h0
  rw [hi1] at h1
  obtain ⟨y0, hy0⟩ : ∃ y0, ys[0]? = some y0 := ⟨_, List.getElem?_eq_getElem (by rw [hl0]; decide)⟩
  obtain ⟨y1, hy1⟩ : ∃ y1, ys[1]? = some y1 := ⟨_, List.getElem?_eq_getElem (by rw [hl0]; decide)⟩
  rw [hy0] at h0
  rw [hy1] at h1
  obtain ⟨s, c0, _, ws⟩ := DataW.trod_string Try.underlying9 h0
  obtain ⟨q, c1, _, wq⟩ := DataW.trod_int Try.underlying3 h1
  refine ⟨(s, q), ?_, i64_of wq, ws⟩
  have b0 := one_at c0
  have b1 := one_at c1
  match cs, hlen with
  | [a0, a1], _ =>
    simp at b0 b1
    subst b0 b1
    rfl

theorem pledges_open {H : Type} {enc : TypeId × Value → H} {W : World} {base : Nat} {v : Value} {d : DataW H} {p : List MemPlace} {ts : List TypeId} {ds : List (DataW H)} {j : Nat}
    (h : DataW.Trod enc Try.prog W 0 (fun _ => true) true 28 v d p) (hlt : ∀ x ∈ p, x.block < W.heap.size) (hok : Value.okWide Try.prog W .any base 28 v)
    (_ : (DataW.weightsEach Try.prog ts ds).all (· ≤ reachBytes) = true) (_ : ts[j]? = some 28) (_ : ds[j]? = some d) : ∃ xs, PlIn W v xs := by
  obtain ⟨a0, len, cap, rfl⟩ := okWide_slice Try.underlying28 hok
  obtain ⟨fuel, hf⟩ := h
  rcases open_slice Try.underlying28 hf with ⟨hcs, _⟩ | ⟨x, l, c, m, n, D, Pl, hcs, _, hl, hm, hmm, hx, hi⟩
  · simp [Value.cells] at hcs
    obtain ⟨rfl, rfl, rfl⟩ := hcs
    exact ⟨[], ⟨none, 0, rfl, .inl rfl⟩, fun p hp => by simp at hp⟩
  · simp [Value.cells] at hcs
    obtain ⟨rfl, rfl, rfl⟩ := hcs
    simp only [Prod.mk.injEq] at hx
    obtain ⟨rfl, rfl⟩ := hx
    simp only [if_true] at hmm
    subst hmm
    rw [cellsPl] at hi
    have hc : ∀ i, i < len → ∃ s : Go.Proofs.Ytnehamkpeeadjaa.Pl, (i64 s.2 ∧ s.1.size ≤ maxLen) ∧ W.cell? ((x.add (i * 2)).add 0) = some (.string s.1) ∧ W.cell? ((x.add (i * 2)).add 1) = some (.int .i64 s.2) := fun i hil => by
      obtain ⟨cs', h1, h2⟩ := hi i (by omega)
      obtain ⟨s, rfl, hw⟩ := pledge_cells h2
      obtain ⟨_, _, hat⟩ := World.cells?_some h1
      exact ⟨s, hw, hat 0 (by omega), hat 1 (by omega)⟩
    have : Inhabited Go.Proofs.Ytnehamkpeeadjaa.Pl := ⟨(ByteArray.empty, 0)⟩
    obtain ⟨f, hfs⟩ := choose_lt hc
    have hlen : ((List.range len).map f).length = len := by simp
    refine ⟨(List.range len).map f, ⟨some x, _, by rw [hlen], ?_⟩, fun y hy => ?_⟩
    · by_cases hl0 : len = 0
      · left; subst hl0; rfl
      · right
        obtain ⟨b, off, spot⟩ := x
        have hspot : spot = none := by
          have := World.cell?_spot (hfs 0 (by omega)).2.1
          simpa [Addr.add] using this
        subst hspot
        refine ⟨b, off, rfl, hlt (.cell b off) (List.mem_append_left _ (MemPlace.mem_row.2 ⟨0, by rw [cellsPl]; omega, by simp⟩)), fun i hi2 => ?_⟩
        rw [hlen] at hi2
        obtain ⟨_, k0, k1⟩ := hfs i hi2
        rw [Go.Deep.add_add, Go.WideShapes.add_plain] at k0 k1
        have e : ((List.range len).map f).getD i (ByteArray.empty, 0) = f i := by simp [List.getD, hi2]
        rw [e]
        exact ⟨by simpa using k0, by rw [Nat.add_assoc]; exact k1⟩
    · obtain ⟨i, hi2, rfl⟩ := List.mem_map.1 hy
      exact (hfs i (List.mem_range.1 hi2)).1

theorem PlIn.below {w w' : World} {v : Value} {xs : List Pl} (hv : PlIn w v xs) (hb : Below w.heap.size w w') : PlIn w' v xs := ⟨hv.1.below hb, hv.2⟩

theorem plCells_at : ∀ (xs : List Pl) (j : Nat), j < xs.length * 2 → (plCells xs)[j]? = some (if j % 2 = 0 then .string (xs.getD (j / 2) (ByteArray.empty, 0)).1 else .int .i64 (xs.getD (j / 2) (ByteArray.empty, 0)).2)
  | [], _, h => by simp at h
  | p :: r, j, h => by
    have e : plCells (p :: r) = .string p.1 :: .int .i64 p.2 :: plCells r := rfl
    rw [e]
    match j, h with
    | 0, _ => rfl
    | 1, _ => rfl
    | j + 2, h =>
      rw [List.getElem?_cons_succ, List.getElem?_cons_succ, plCells_at r j (by simp at h; omega), show (j + 2) % 2 = j % 2 by omega, show (j + 2) / 2 = j / 2 + 1 by omega]
      simp

theorem append_pls {w : World} {base : Nat} {v u : Value} {xs ys : List Pl} (hown : OwnPl w base v xs) (hu : PlAt w u ys) (hl : xs.length + ys.length ≤ 1000) (hb : base ≤ w.heap.size) (ty : TypeId) :
    ∃ v' w', (Builtin.append_ #[28, 28] ty #[v, u]).run Try.prog w = .ok v' w' ∧ OwnPl w' base v' (xs ++ ys) ∧ Below base w w' := by
  obtain ⟨i0, hi, hz0, hz1, hz2⟩ := info_parts infoP
  obtain ⟨a, c, rfl, hcs⟩ := hu
  cases a with
  | none =>
    have hy : ys = [] := by
      rcases hcs with h | ⟨_, _, h, _⟩
      · exact h
      · cases h
    subst hy
    exact ⟨v, w, append_none hown i0 _ ty Try.underlying28 hi c, by rw [List.append_nil]; exact hown, Below.refl _ _⟩
  | some ad =>
    have hnews : ∀ j u, (plCells ys)[j]? = some u → w.cell? (ad.add j) = some u := by
      intro j u hju
      rcases hcs with h | ⟨b, off, h, _, hc⟩
      · subst h; simp [plCells] at hju
      · injection h with h
        subst h
        have hj : j < ys.length * 2 := by rw [← plCells_length]; exact (List.getElem?_eq_some_iff.1 hju).1
        have h1 := plCells_at ys j hj
        have h2 := hc (j / 2) (by omega)
        rw [hju] at h1
        injection h1 with h1
        rw [Go.WideShapes.add_plain, h1]
        by_cases hm : j % 2 = 0
        · rw [if_pos hm, show off + j = off + j / 2 * 2 by omega]; exact h2.1
        · rw [if_neg hm, show off + j = off + j / 2 * 2 + 1 by omega]; exact h2.2
    have h1 : ∀ u ∈ plCells ys, u.oneCell' = true := fun u hu => by
      obtain ⟨s, _, hs⟩ := List.mem_flatMap.1 hu
      simp at hs
      rcases hs with rfl | rfl <;> rfl
    obtain ⟨v', w', h2, h3, h4, _, _⟩ := run_append_own_at (P := Try.prog) w base 28 ty 36 i0 (.agg #[.string ByteArray.empty, .int .i64 0]) 2 24 Try.underlying28 hi hz0 hz1 hz2 rfl (by decide) v xs.length (plCells xs) hown ad ys.length c (plCells ys) (plCells_length ys)
      hnews h1 (by unfold maxLen; omega) (by omega) hb
    refine ⟨v', w', h2, ?_, (Below.refl _ _).grown h4 hb (own_base hown)⟩
    unfold OwnPl
    rw [List.length_append, show plCells (xs ++ ys) = plCells xs ++ plCells ys by simp [plCells]]
    exact h3

set_option maxHeartbeats 1600000 in
theorem samePl_any (v u : Value) (ps : List Pl) (w : World) (hv : PlAt w v ps) (hu : PlAt w u ps) (hl : ps.length ≤ 1000) :
    Calls Try.prog 13 #[v, u] w fun e w' => e = .returned (.bool true) ∧ Below w.heap.size w w' := by
  obtain ⟨a1, c1, rfl, hc1⟩ := hv
  obtain ⟨a5, c5, rfl, hc5⟩ := hu
  obtain ⟨L, hL⟩ : ∃ L, L = ps.length := ⟨_, rfl⟩
  rw [← hL] at hl ⊢
  have HLL := Lib.hid hL
  have HC1 := Lib.hid hc1
  have HC5 := Lib.hid hc5
  clear hL hc1 hc5
  go_enter Try.func13, Try.ntmps13
  go_wp2_with fail
  go_loopw [5] (fun i wr => ∃ k : Nat, i = .int .i64 k ∧ k ≤ L ∧ Below w.heap.size w wr) (fun i _ => (L - RowKit.intOf i).toNat)
  case atStart => exact ⟨0, rfl, Nat.zero_le _, Below.refl _ _⟩
  case round =>
    obtain ⟨k, rfl, hk, hbw⟩ := hrel
    have HB := Lib.hid hbw
    by_cases hlt : k < L
    · have hltz : (k : Int) < (L : Int) := by omega
      have hk0 : (0 : Int) ≤ (k : Int) := by omega
      have h2 : k < ps.length := by rw [← HLL.out]; exact hlt
      have hg1 : ∃ g off, a1 = some ⟨g, off, none⟩ ∧ wr.cell? ⟨g, off + k * 2, none⟩ = some (.string (ps.getD k (ByteArray.empty, 0)).1) ∧ wr.cell? ⟨g, off + k * 2 + 1, none⟩ = some (.int .i64 (ps.getD k (ByteArray.empty, 0)).2) := by
        rcases HC1.out with h | ⟨g, off, e, hg, hc⟩
        · rw [h] at h2; simp at h2
        · exact ⟨g, off, e, by rw [hbw.cell (p := ⟨g, _, none⟩) hg]; exact (hc k h2).1, by rw [hbw.cell (p := ⟨g, _, none⟩) hg]; exact (hc k h2).2⟩
      have hg5 : ∃ g off, a5 = some ⟨g, off, none⟩ ∧ wr.cell? ⟨g, off + k * 2, none⟩ = some (.string (ps.getD k (ByteArray.empty, 0)).1) ∧ wr.cell? ⟨g, off + k * 2 + 1, none⟩ = some (.int .i64 (ps.getD k (ByteArray.empty, 0)).2) := by
        rcases HC5.out with h | ⟨g, off, e, hg, hc⟩
        · rw [h] at h2; simp at h2
        · exact ⟨g, off, e, by rw [hbw.cell (p := ⟨g, _, none⟩) hg]; exact (hc k h2).1, by rw [hbw.cell (p := ⟨g, _, none⟩) hg]; exact (hc k h2).2⟩
      obtain ⟨q, hq⟩ : ∃ q, q = ps.getD k (ByteArray.empty, 0) := ⟨_, rfl⟩
      rw [← hq] at hg1 hg5
      obtain ⟨g1, o1, rfl, x1, x2⟩ := hg1
      obtain ⟨g5, o5, rfl, y1, y2⟩ := hg5
      have he : ∀ W : World, (Op.equalIn 10000 36 (.agg #[.string q.1, .int .i64 q.2]) (.agg #[.string q.1, .int .i64 q.2])).run Try.prog W = .ok true W := fun W => by rw [eq_pl]; simp
      clear hq h2
      go_wp2_with fail
      go_quiet (fail)
      go_wp2
      go_roundw
      case rel => exact ⟨k + 1, by go_num, by omega, below_drewN HB.out _⟩
      case measure => simp [RowKit.intOf]; omega
    · have hltz : ¬ (k : Int) < (L : Int) := by omega
      go_wp2
      go_ret
      exact ⟨rfl, HB.out⟩

end Go.Proofs.Ytnehamkpeeadjaa
