/-
  NameSets: the calls, as they come in.
-/
import Derived.Test.YtgbknjpjhkegdaaGreatOpen
import Derived.Deep.SlicePairs
namespace Go.Proofs.YtgbknjpjhkegdaaGreat
open Go.ChangeShapes Go.WideShapes Go.ChangeAt Go.RowKit Go.Deep
set_option linter.unusedVariables false

/-- One call: its kind, the head of its texts, its texts. -/
abbrev Op := Int × Value × List ByteArray

/-- The slice v reads as the calls ops. -/
def OpsAt (w : World) (v : Value) (ops : List Op) : Prop :=
  ∃ a c, v = .slice a ops.length c ∧ (∀ o ∈ ops, (Lit.int .i64 o.1).wf = true ∧ TextsAt w o.2.1 o.2.2) ∧
    (ops = [] ∨ ∃ b off, a = some ⟨b, off, none⟩ ∧ b < w.heap.size ∧ ∀ j (h : j < ops.length), w.cell? ⟨b, off + j * 2, none⟩ = some (.int .i64 ops[j].1) ∧ w.cell? ⟨b, off + (j * 2 + 1), none⟩ = some ops[j].2.1)

set_option maxRecDepth 100000 in
theorem texts_of_trod {H : Type} {enc : TypeId × Value → H} {W : World} {fuel : Nat} {v : Value} {d : DataW H} {p : List MemPlace} (hf : DataW.trod enc Tryz.prog W 0 (fun _ => true) true fuel 22 [v] = some (d, p)) (hlt : ∀ x ∈ p, x.block < W.heap.size)
    (hsz : ∀ n ∈ d.weights Tryz.prog 22, n ≤ reachBytes) : ∃ ss, TextsAt W v ss := by
  rcases open_strings Tryz.underlying22 Tryz.underlying9 (by kernel_rfl) hf with ⟨hcs, _⟩ | ⟨x, l, c, zs, hcs, _, hl, hm, hz, hx, hcell, hwz⟩
  · simp at hcs
    subst hcs
    exact ⟨[], none, 0, rfl, by simp, by simp, .inl rfl⟩
  · simp at hcs
    subst hcs
    simp only [Prod.mk.injEq] at hx
    obtain ⟨rfl, rfl⟩ := hx
    simp only [if_true] at hz
    have hb16 : Tryz.prog.bytesOf 9 = 16 := by kernel_rfl
    have hreach : (zs.length) * 16 ≤ reachBytes := by
      refine hsz _ ?_
      rw [DataW.weights, Tryz.underlying22]
      refine List.mem_cons.2 (.inl ?_)
      rw [hb16, strs, strs, List.length_map, List.length_map, List.length_take, List.length_drop]
      congr 1
      omega
    simp only [reachBytes] at hreach
    have hl2 : (zs.take l).length = l := by rw [List.length_take]; omega
    refine ⟨zs.take l, some x, c, by rw [hl2], by omega, fun y hy => ?_, ?_⟩
    · have hy2 : (DataW.lit (.string y.data.toList) : DataW H) ∈ strs (H := H) (zs.take l) := List.mem_map.2 ⟨y, hy, rfl⟩
      have hw : y.data.toList.length ∈ (DataW.slice (strs (zs.take l)) (strs (zs.drop l)) : DataW H).weights Tryz.prog 22 := by
        rw [DataW.weights, Tryz.underlying22]
        exact List.mem_cons_of_mem _ (List.mem_append_left _ (weights_all hy2 (by simp [DataW.weights])))
      have h2 := hsz _ hw
      simpa [reachBytes] using h2
    · by_cases hl0 : l = 0
      · exact .inl (by rw [hl0]; rfl)
      · right
        obtain ⟨b, off, spot⟩ := x
        have hspot : spot = none := by simpa [Addr.add] using World.cell?_spot (hcell 0 (by omega))
        subst hspot
        refine ⟨b, off, rfl, hlt (.cell b off) (MemPlace.mem_row.2 ⟨0, by omega, by simp⟩), fun i hi => ?_⟩
        rw [hl2] at hi
        have := hcell i (by omega)
        rw [add_plain] at this
        rw [this]
        simp [List.getD, hi]

set_option maxRecDepth 100000 in
theorem ops_open {H : Type} {enc : TypeId × Value → H} {W : World} {base : Nat} {v : Value} {d : DataW H} {p : List MemPlace} {ts : List TypeId} {ds : List (DataW H)} {j : Nat}
    (h : DataW.Trod enc Tryz.prog W 0 (fun _ => true) true 52 v d p) (hlt : ∀ x ∈ p, x.block < W.heap.size) (hok : Value.okWide Tryz.prog W .any base 52 v)
    (hsz : (DataW.weightsEach Tryz.prog ts ds).all (· ≤ reachBytes) = true) (ht : ts[j]? = some 52) (hd : ds[j]? = some d) : ∃ xs, OpsAt W v xs := by
  obtain ⟨a0, len, cap, rfl⟩ := okWide_slice Tryz.underlying52 hok
  obtain ⟨fuel, hf⟩ := h
  have hi1 : Tryz.prog.cellsOf 3 = 1 := by kernel_rfl
  have hs1 : Tryz.prog.cellsOf 22 = 1 := by kernel_rfl
  have hc2 : Tryz.prog.cellsOf 62 = 2 := by kernel_rfl
  rcases open_slice_pairs Tryz.underlying52 Tryz.underlying62 hc2 rfl rfl hi1 hs1 hf with ⟨hcs, _⟩ | ⟨x, l, c, m, n, V0, V1, D0, D1, P0, P1, hcs, _, hl, hm, hmm, hx, hi⟩
  · simp [Value.cells] at hcs
    obtain ⟨rfl, rfl, rfl⟩ := hcs
    exact ⟨[], none, 0, rfl, by simp, .inl rfl⟩
  · simp [Value.cells] at hcs
    obtain ⟨rfl, rfl, rfl⟩ := hcs
    simp only [Prod.mk.injEq] at hx
    obtain ⟨rfl, rfl⟩ := hx
    simp only [if_true] at hmm
    subst hmm
    have hdw : ∀ i, i < len → ∀ q ∈ (D1 i).weights Tryz.prog 22, q ≤ reachBytes := fun i hil q hq => by
      have h1 : q ∈ (DataW.agg [D0 i, D1 i] : DataW H).weights Tryz.prog 62 := by
        rw [DataW.weights, Tryz.underlying62]
        show q ∈ DataW.weightsEach Tryz.prog [3, 22] [D0 i, D1 i]
        rw [DataW.weightsEach, DataW.weightsEach]
        exact List.mem_append_right _ (List.mem_append_left _ hq)
      have h2 : q ∈ (DataW.slice ((List.range len).map fun i => .agg [D0 i, D1 i]) ((List.range (m - len)).map fun j => .agg [D0 (len + j), D1 (len + j)]) : DataW H).weights Tryz.prog 52 := by
        rw [DataW.weights, Tryz.underlying52]
        exact List.mem_cons_of_mem _ (List.mem_append_left _ (weights_all (List.mem_map.2 ⟨i, List.mem_range.2 hil, rfl⟩) h1))
      exact of_decide_eq_true (List.all_eq_true.1 hsz _ (DataW.weights_mem_each ht hd _ h2))
    have hall : ∀ i, i < len → ∃ o : Op, ((Lit.int .i64 o.1).wf = true ∧ TextsAt W o.2.1 o.2.2) ∧ W.cell? (x.add (i * 2)) = some (.int .i64 o.1) ∧ W.cell? (x.add (i * 2 + 1)) = some o.2.1 := fun i hil => by
      obtain ⟨c0, c1, t0, t1⟩ := hi i (by omega)
      obtain ⟨q, e0, _, wf⟩ := DataW.trod_int Tryz.underlying3 t0
      obtain ⟨ss, hss⟩ := texts_of_trod t1 (fun y hy => hlt y (List.mem_append_right _ (List.mem_flatMap.2 ⟨i, List.mem_range.2 (by omega), List.mem_append_right _ hy⟩))) (hdw i hil)
      injection e0 with e0 _
      exact ⟨(q, V1 i, ss), ⟨wf, hss⟩, by rw [c0, e0], c1⟩
    have : Inhabited Op := ⟨(0, .slice none 0 0, [])⟩
    obtain ⟨f, hfs⟩ := choose_lt hall
    have hlen : ((List.range len).map f).length = len := by simp
    refine ⟨(List.range len).map f, some x, _, by rw [hlen], fun o ho => ?_, ?_⟩
    · obtain ⟨i, hi2, rfl⟩ := List.mem_map.1 ho
      exact (hfs i (List.mem_range.1 hi2)).1
    · by_cases hl0 : len = 0
      · exact .inl (by subst hl0; rfl)
      · right
        obtain ⟨b, off, spot⟩ := x
        have hspot : spot = none := by simpa [Addr.add] using World.cell?_spot (hfs 0 (by omega)).2.1
        subst hspot
        refine ⟨b, off, rfl, hlt (.cell b off) (List.mem_append_left _ (MemPlace.mem_row.2 ⟨0, by omega, by simp⟩)), fun i hi2 => ?_⟩
        rw [hlen] at hi2
        obtain ⟨_, k0, k1⟩ := hfs i hi2
        rw [Go.WideShapes.add_plain] at k0 k1
        simp only [List.getElem_map, List.getElem_range]
        exact ⟨k0, k1⟩
end Go.Proofs.YtgbknjpjhkegdaaGreat
