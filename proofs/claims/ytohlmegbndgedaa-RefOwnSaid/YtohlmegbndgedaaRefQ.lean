/-
  ref: rows of accounts that come in; what is added of them.
-/
import Derived.Test.YtohlmegbndgedaaRefB
namespace Go.Proofs.Ytohlmegbndgedaa
open Go.ChangeShapes Go.WideShapes Go.ChangeAt Go.RowKit Go.Deep Go.Maps Go.WideMaps Held

structure Acc where
  name : ByteArray
  party : ByteArray
def Acc.cells (x : Acc) : List Value := [.string x.name, .string x.party]
def Acc.val (x : Acc) : Value := .agg #[.string x.name, .string x.party]
def acc0 : Acc := ⟨ByteArray.empty, ByteArray.empty⟩
def Acc.wf (x : Acc) : Prop := x.name.size ≤ maxLen ∧ x.party.size ≤ maxLen

/-- The slice v reads as the rows xs. -/
def AccsAt (w : World) (v : Value) (xs : List Acc) : Prop :=
  ∃ a c, v = .slice a xs.length c ∧ xs.length * 32 ≤ 140737488351232 ∧ (∀ x ∈ xs, x.wf) ∧ (xs = [] ∨ ∃ b off, a = some ⟨b, off, none⟩ ∧ b < w.heap.size ∧ ∀ i j, i < xs.length → j < 2 → w.cell? ⟨b, off + i * 2 + j, none⟩ = (xs.getD i acc0).cells[j]?)
theorem AccsAt.below {w w' : World} {v : Value} {xs : List Acc} (hv : AccsAt w v xs) (hb : Below w.heap.size w w') : AccsAt w' v xs := by
  obtain ⟨a, c, h1, h2, h3, h4⟩ := hv
  refine ⟨a, c, h1, h2, h3, ?_⟩
  rcases h4 with h4 | ⟨b, off, e, hlt, hc⟩
  · exact .inl h4
  · exact .inr ⟨b, off, e, by have := hb.size; omega, fun i j hi hj => by rw [hb.cell (p := ⟨b, _, none⟩) hlt]; exact hc i j hi hj⟩

theorem Acc_cells {w : World} {a : Option Addr} {xs : List Acc} {k : Nat} (h : xs = [] ∨ ∃ b off, a = some ⟨b, off, none⟩ ∧ b < w.heap.size ∧ ∀ i j, i < xs.length → j < 2 → w.cell? ⟨b, off + i * 2 + j, none⟩ = (xs.getD i acc0).cells[j]?) (hk : k < xs.length) :
    ∃ b off, a = some ⟨b, off, none⟩ ∧ b < w.heap.size ∧ w.cell? ⟨b, off + k * 2, none⟩ = some (.string (xs.getD k acc0).name) ∧ w.cell? ⟨b, off + k * 2 + 1, none⟩ = some (.string (xs.getD k acc0).party) := by
  rcases h with h | ⟨b, off, e, hb, hc⟩
  · rw [h] at hk; simp at hk
  · exact ⟨b, off, e, hb, hc k 0 hk (by omega), hc k 1 hk (by omega)⟩

set_option maxRecDepth 100000 in
theorem cellsAcc : Try.prog.cellsOf 40 = 2 := by kernel_rfl
set_option maxRecDepth 100000 in
theorem Acc_row {H : Type} {enc : TypeId × Value → H} {W : World} {base : Nat} {spare : Nat → Bool} {held : Bool} {n : Nat} {cs : List Value} {x : DataW H × List MemPlace} (h : DataW.trod enc Try.prog W base spare held n 40 cs = some x) : ∃ s : Acc, cs = s.cells ∧ s.wf := by
  obtain ⟨ys, n', _, _, hlen, hl0, hf⟩ := DataW.trod_struct Try.underlying40 h
  rw [cellsAcc] at hlen
  have ones : Try.prog.cellsOf 9 = 1 := by kernel_rfl
  have get : ∀ i, i < 2 → ∃ z, ys[i]? = some z := fun i hi => ⟨_, List.getElem?_eq_getElem (by rw [hl0]; exact hi)⟩
  have g0 : DataW.trod enc Try.prog W base spare held n' 9 ((cs.drop 0).take (Try.prog.cellsOf 9)) = ys[0]? := hf 0 _ rfl
  obtain ⟨z0, e0⟩ := get 0 (by omega)
  rw [ones, e0] at g0
  obtain ⟨s0, c0, _, w0⟩ := DataW.trod_string Try.underlying9 g0
  have b0 := one_at c0
  have g1 : DataW.trod enc Try.prog W base spare held n' 9 ((cs.drop 1).take (Try.prog.cellsOf 9)) = ys[1]? := hf 1 _ rfl
  obtain ⟨z1, e1⟩ := get 1 (by omega)
  rw [ones, e1] at g1
  obtain ⟨s1, c1, _, w1⟩ := DataW.trod_string Try.underlying9 g1
  have b1 := one_at c1
  refine ⟨⟨s0, s1⟩, ?_, w0, w1⟩
  match cs, hlen with
  | [a0, a1], _ =>
    simp at b0 b1
    subst b0 b1
    rfl

set_option maxRecDepth 100000 in
theorem Accs_open {H : Type} {enc : TypeId × Value → H} {W : World} {base : Nat} {v : Value} {d : DataW H} {p : List MemPlace} {ts : List TypeId} {ds : List (DataW H)} {j : Nat}
    (h : DataW.Trod enc Try.prog W 0 (fun _ => true) true 34 v d p) (hlt : ∀ x ∈ p, x.block < W.heap.size) (hok : Value.okWide Try.prog W .any base 34 v)
    (hsz : (DataW.weightsEach Try.prog ts ds).all (· ≤ reachBytes) = true) (ht : ts[j]? = some 34) (hd : ds[j]? = some d) : ∃ xs, AccsAt W v xs := by
  obtain ⟨a0, len, cap, rfl⟩ := okWide_slice Try.underlying34 hok
  obtain ⟨fuel, hf⟩ := h
  rcases open_slice Try.underlying34 hf with ⟨hcs, _⟩ | ⟨x, l, c, m, n, D, Pl, hcs, _, hl, hm, hmm, hx, hi⟩
  · simp [Value.cells] at hcs
    obtain ⟨rfl, rfl, rfl⟩ := hcs
    exact ⟨[], none, 0, rfl, by simp, by simp, .inl rfl⟩
  · simp [Value.cells] at hcs
    obtain ⟨rfl, rfl, rfl⟩ := hcs
    simp only [Prod.mk.injEq] at hx
    obtain ⟨rfl, rfl⟩ := hx
    simp only [if_true] at hmm
    subst hmm
    have hby : Try.prog.bytesOf 40 = 32 := by kernel_rfl
    have hreach := sized_slice hsz ht hd Try.underlying34
    rw [hby] at hreach
    simp only [List.length_map, List.length_range, reachBytes] at hreach
    rw [cellsAcc] at hi
    have hc : ∀ i, i < len → ∃ s : Acc, s.wf ∧ ∀ j, j < 2 → W.cell? ((x.add (i * 2)).add j) = s.cells[j]? := fun i hil => by
      obtain ⟨cs', h1, h2⟩ := hi i (by omega)
      obtain ⟨s, rfl, hw⟩ := Acc_row h2
      obtain ⟨_, _, hat⟩ := World.cells?_some h1
      exact ⟨s, hw, hat⟩
    have : Inhabited Acc := ⟨acc0⟩
    obtain ⟨f, hfs⟩ := choose_lt hc
    have hlen : ((List.range len).map f).length = len := by simp
    refine ⟨(List.range len).map f, some x, _, by rw [hlen], by rw [hlen]; omega, fun y hy => ?_, ?_⟩
    · obtain ⟨i, hi2, rfl⟩ := List.mem_map.1 hy
      exact (hfs i (List.mem_range.1 hi2)).1
    · by_cases hl0 : len = 0
      · left; subst hl0; rfl
      · right
        obtain ⟨b, off, spot⟩ := x
        have h00 := (hfs 0 (by omega)).2 0 (by omega)
        have hspot : spot = none := by
          have := World.cell?_spot (h00.trans (show (f 0).cells[0]? = some _ from rfl))
          simpa [Addr.add] using this
        subst hspot
        refine ⟨b, off, rfl, hlt (.cell b off) (List.mem_append_left _ (MemPlace.mem_row.2 ⟨0, by rw [cellsAcc]; omega, by simp⟩)), fun i j hi2 hj => ?_⟩
        rw [hlen] at hi2
        have := (hfs i hi2).2 j hj
        rw [Go.Deep.add_add, add_plain] at this
        rw [Nat.add_assoc, this]
        simp [List.getD, hi2]

set_option maxRecDepth 100000 in
theorem zeroAccV (w : World) : (zeroValue 40).run Try.prog w = .ok (acc0.val) w := by kernel_rfl
theorem keyQ_any (g : Nat) (w : World) : Calls Try.prog 38 #[.pointer (some ⟨g, 0, none⟩)] w fun e w' => e = .returned (.pointer (some ⟨g, 0, none⟩)) ∧ w = w' := by
  go_enter Try.func38, Try.ntmps38
  go_wp2
  go_ret
  exact ⟨rfl, rfl⟩

set_option maxRecDepth 100000 in
theorem cloneMQ (b : Nat) (D : DH) (w : World) (h : MapH Try.prog 9 w b D) :
    Calls Try.prog 53 #[.map (some b)] w fun e w' => e = .returned (.map (some w.heap.size)) ∧ MapH Try.prog 9 w' w.heap.size D ∧ Below w.heap.size w w' := by
  obtain ⟨⟨es, clock, hb, F, hs, hD⟩, hk⟩ := h
  have main : Calls Try.prog 53 #[.map (some b)] w fun e w' => e = .returned (.map (some w.heap.size)) ∧ w' = w.alloc (.map es clock) := by
    clear F hs hD hk
    have hq := fun w => run_eql_map_nil_sl (P := Try.prog) w 58 _ _ (some b) Try.underlying58
    go_enter Try.func53, Try.ntmps53
    go_wp2
    rw [run_callFunc_extern Try.func61 (by kernel_rfl) (by kernel_rfl) (by kernel_rfl) (e := Extern.MapsClone.clone) (by kernel_rfl), run_maps_clone_sl w 58 hb]
    simp only [Result.andThen]
    rw [Oper.upon_value]
    go_wp2
    rw [run_typeAssert_map_sl _ 58 20 _ _ _ Try.underlying58]
    simp only [Result.andThen]
    rw [Oper.upon_value]
    go_wp2
    go_ret
    exact ⟨rfl, rfl⟩
  refine main.mono fun e w' ⟨he, hw⟩ => ?_
  subst hw
  exact ⟨he, ⟨⟨es, clock, (MapKept.heap_alloc w _).1, F, hs, hD⟩, hk⟩, (Below.refl _ w).alloc (Nat.le_refl _) _⟩

set_option maxRecDepth 100000 in
theorem cloneNQ (w : World) : Calls Try.prog 53 #[.map none] w fun e w' => e = .returned (.map none) ∧ w = w' := by
  have hq := fun w => run_eql_map_nil_sl (P := Try.prog) w 58 _ _ none Try.underlying58
  go_enter Try.func53, Try.ntmps53
  go_wp2
  go_ret
  exact ⟨rfl, rfl⟩


/-- An account is of a party that there is in D. -/
def aheadQ (D : DH) (x : Acc) : Int := if hasV D x.party then 0 else 7
def behindQ (_ : Acc) : Int := 0

theorem zeroPty (w : World) : (zeroValue 37).run Try.prog w = .ok (.agg #[.string ByteArray.empty, .int .i64 0]) w := by kernel_rfl

/-- The parties, as the closure that asks for them finds them. -/
structure Asks (w : World) (rb R : Nat) (p : Option Nat) (D : DH) : Prop where
  box : w.cell? ⟨rb, 0, none⟩ = some (.pointer (some ⟨R, 0, none⟩))
  ptr : w.cell? ⟨R, 1, none⟩ = some (.map p)
  map : MapO w p D
  ty : ∀ s z, hasV D s = true → ∃ (n : ByteArray) (l : Int), getV D s z = .agg #[.string n, .int .i64 l]
  l1 : rb < w.heap.size
  l2 : R < w.heap.size
theorem Asks.below {w w' : World} {rb R : Nat} {p : Option Nat} {D : DH} (h : Asks w rb R p D) (hb : Below w.heap.size w w') : Asks w' rb R p D :=
  ⟨(hb.cell (p := ⟨rb, 0, none⟩) h.l1).trans h.box, (hb.cell (p := ⟨R, 1, none⟩) h.l2).trans h.ptr, h.map.below hb, h.ty, Nat.lt_of_lt_of_le h.l1 hb.size, Nat.lt_of_lt_of_le h.l2 hb.size⟩

set_option maxRecDepth 100000 in
set_option maxHeartbeats 1600000 in
theorem aheadQ_any (x : Acc) (hx : x.wf) (rb R : Nat) (p : Option Nat) (D : DH) (w : World) (h : Asks w rb R p D) :
    Calls Try.prog 39 #[.agg #[.string x.name, .string x.party], .pointer (some ⟨rb, 0, none⟩)] w fun e w' => e = .returned (.int .i64 (aheadQ D x)) ∧ Below w.heap.size w w' := by
  have hA := h.below ((Below.refl w.heap.size w).alloc (Nat.le_refl _) (.cells #[.string x.name, .string x.party] 40))
  have HLK := Lib.hid (fun W' (hb : Below (w.alloc (.cells #[.string x.name, .string x.party] 40)).heap.size (w.alloc (.cells #[.string x.name, .string x.party] 40)) W') => (hA.below hb).map.lookOk Try.underlying57 zeroPty (s := x.party) hx.2)
  have HSS := Lib.hid (fun W' (hb : Below (w.alloc (.cells #[.string x.name, .string x.party] 40)).heap.size (w.alloc (.cells #[.string x.name, .string x.party] 40)) W') =>
    (⟨(hA.below hb).box, (hA.below hb).ptr, (hb.cell (p := ⟨w.heap.size, 1, none⟩) (by simp)).trans (by simp)⟩ :
      W'.cell? ⟨rb, 0, none⟩ = some (.pointer (some ⟨R, 0, none⟩)) ∧ W'.cell? ⟨R, 1, none⟩ = some (.map p) ∧ W'.cell? ⟨w.heap.size, 1, none⟩ = some (.string x.party)))
  have hlk1 := HLK.out _ (Below.drew (Below.refl _ _))
  have hlk2 := HLK.out _ (Below.drew (Below.alloc (Below.refl _ _) (Nat.le_refl _) (.cells #[.string ⟨#[]⟩, .int .i64 0] 37)))
  have hbx : Below w.heap.size w (w.alloc (.cells #[.string x.name, .string x.party] 40)) := (Below.refl _ w).alloc (Nat.le_refl _) _
  have HBX := Lib.hid hbx
  cases hh : hasV D x.party with
  | false =>
    rw [hh, getV_no hh] at hlk1 hlk2
    have HE := Lib.hid (show aheadQ D x = 7 by rw [aheadQ, hh]; rfl)
    clear hh hA h hbx
    go_enter Try.func39, Try.ntmps39
    go_wp2_with fail
    go_region_held3 (fun w' => w'.cell? ⟨rb, 0, none⟩ = some (.pointer (some ⟨R, 0, none⟩)) ∧ w'.cell? ⟨R, 1, none⟩ = some (.map p) ∧ w'.cell? ⟨w.heap.size, 1, none⟩ = some (.string x.party))
      (first | exact HSS.out _ (Below.drew (Below.refl _ _)) | exact HSS.out _ (Below.drew (Below.alloc (Below.refl _ _) (Nat.le_refl _) _)) | exact HSS.out _ (Below.setCell (Below.drew (Below.alloc (Below.refl _ _) (Nat.le_refl _) _)) (by simp) _)) (fail)
    all_goals
      go_wp2
      go_ret
      exact ⟨by rw [HE.out]; rfl, by first | exact Below.drew (Below.alloc HBX.out (by simp) _) | exact Below.alloc (Below.drew HBX.out) (by simp) _⟩
  | true =>
    obtain ⟨pn, pl, hpv⟩ := h.ty x.party (.agg #[.string ByteArray.empty, .int .i64 0]) hh
    rw [hh, hpv] at hlk1 hlk2
    have HE := Lib.hid (show aheadQ D x = 0 by rw [aheadQ, hh]; rfl)
    clear hh hA h hbx hpv
    go_enter Try.func39, Try.ntmps39
    go_wp2_with fail
    go_region_held3 (fun w' => w'.cell? ⟨rb, 0, none⟩ = some (.pointer (some ⟨R, 0, none⟩)) ∧ w'.cell? ⟨R, 1, none⟩ = some (.map p) ∧ w'.cell? ⟨w.heap.size, 1, none⟩ = some (.string x.party))
      (first | exact HSS.out _ (Below.drew (Below.refl _ _)) | exact HSS.out _ (Below.drew (Below.alloc (Below.refl _ _) (Nat.le_refl _) _)) | exact HSS.out _ (Below.setCell (Below.drew (Below.alloc (Below.refl _ _) (Nat.le_refl _) _)) (by simp) _)) (fail)
    all_goals
      go_wp2
      go_ret
      exact ⟨by rw [HE.out]; rfl, by first | exact Below.drew (Below.alloc HBX.out (by simp) _) | exact Below.alloc (Below.drew HBX.out) (by simp) _⟩

theorem behindQ_any (x : Acc) (w : World) : Calls Try.prog 40 #[.agg #[.string x.name, .string x.party]] w fun e w' => e = .returned (.int .i64 (behindQ x)) ∧ Below w.heap.size w w' := by
  go_enter Try.func40, Try.ntmps40
  go_wp2
  go_ret
  exact ⟨rfl, by first | exact Below.refl _ _ | exact (Below.refl _ _).alloc (Nat.le_refl _) _⟩

end Go.Proofs.Ytohlmegbndgedaa
