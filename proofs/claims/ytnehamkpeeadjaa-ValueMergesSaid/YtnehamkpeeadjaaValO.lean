/-
  Rows of stocks; the walk of ValueNone.
-/
import Derived.Test.YtnehamkpeeadjaaValN
namespace Go.Proofs.Ytnehamkpeeadjaa
open Go.RowKit

def stCells (xs : List Stk) : List Value := xs.flatMap Stk.cells
theorem stCells_snoc (xs : List Stk) (x : Stk) : stCells (xs ++ [x]) = stCells xs ++ x.cells := by simp [stCells]
theorem stCells_append (xs ys : List Stk) : stCells (xs ++ ys) = stCells xs ++ stCells ys := by simp [stCells]
theorem stk_nine (x : Stk) : x.cells.length = 9 := rfl
theorem stCells_length (xs : List Stk) : (stCells xs).length = xs.length * 9 := by
  induction xs with
  | nil => rfl
  | cons x r ih => rw [stCells, List.flatMap_cons, List.length_append, ← stCells, ih, List.length_cons, stk_nine]; omega
theorem stCells_at : ∀ (xs : List Stk) (i j : Nat), i < xs.length → j < 9 → (stCells xs)[i * 9 + j]? = (xs.getD i stk0).cells[j]?
  | [], _, _, h, _ => by simp at h
  | x :: r, i, j, h, hj => by
    rw [stCells, List.flatMap_cons, ← stCells]
    match i, h with
    | 0, _ => rw [List.getElem?_append_left (by rw [stk_nine]; omega)]; simp
    | i + 1, h =>
      rw [List.getElem?_append_right (by rw [stk_nine]; omega), stk_nine, show (i + 1) * 9 + j - 9 = i * 9 + j by omega, stCells_at r i j (by simpa using h) hj]
      simp

theorem row_cell {w : World} {base e size n : Nat} {v : Value} {xs : List Value} (h : w.ownsRow base e size v n xs) (hn : 0 < n) : ∃ g cap, v = .slice (some ⟨g, 0, none⟩) n cap ∧ base ≤ g ∧ g < w.heap.size ∧ n ≤ cap ∧ ∀ j u, xs[j]? = some u → w.cell? ⟨g, j, none⟩ = some u := by
  obtain ⟨hl, h2⟩ := h
  rcases h2 with ⟨_, h0⟩ | ⟨g, cap, cur, rfl, hb, hg, hnc, hc, hs, ht⟩
  · omega
  · refine ⟨g, cap, rfl, hb, (Array.getElem?_eq_some_iff.1 hg).1, hnc, fun j u hu => ?_⟩
    rw [cell_of_row _ _ _ cur _ (0, 0) hg]
    have hj : j < n * size := by rw [← hl]; exact (List.getElem?_eq_some_iff.1 hu).1
    rw [← ht, List.getElem?_take_of_lt hj, Array.getElem?_toList] at hu
    exact hu

/-- The value owns a row of stocks. -/
def OwnSt (w : World) (base : Nat) (v : Value) (xs : List Stk) : Prop := w.ownsRow base 27 9 v xs.length (stCells xs)

theorem stocks_row {w : World} {base : Nat} {v : Value} {xs : List Stk} (h : OwnSt w base v xs) (hl : xs.length * 72 ≤ 140737488351232) (hw : ∀ x ∈ xs, x.wf) : StocksAt w v xs := by
  by_cases hx : xs = []
  · subst hx
    rcases h.2 with ⟨rfl, _⟩ | ⟨g, cap, cur, rfl, _⟩
    · exact ⟨none, 0, rfl, hl, hw, .inl rfl⟩
    · exact ⟨_, cap, rfl, hl, hw, .inl rfl⟩
  · obtain ⟨g, cap, rfl, _, hg, _, hc⟩ := row_cell h (List.length_pos_iff.2 hx)
    refine ⟨_, cap, rfl, hl, hw, .inr ⟨g, 0, rfl, hg, fun i j hi hj => ?_⟩⟩
    have h2 := stCells_at xs i j hi hj
    have hj2 : j < (xs.getD i stk0).cells.length := by rw [stk_nine]; exact hj
    rw [List.getElem?_eq_getElem hj2] at h2 ⊢
    rw [Nat.zero_add]
    exact hc _ _ h2

theorem infoS : (Try.prog.info? 27).map (fun i => (i.zero, i.size, i.bytes)) = some (some (.agg #[.string ByteArray.empty, .bool false, .bool false, .int .i64 0, .int .i64 0, .int .i64 0, .int .i64 0, .int .i64 0, .int .i64 0]), 9, 72) := by kernel_rfl

theorem cells_new (w : World) (cs : List Value) (t : TypeId) : ∀ j u, cs[j]? = some u → (w.alloc (.cells cs.toArray t)).cell? ((⟨w.heap.size, 0, none⟩ : Addr).add j) = some u :=
  World.news_of_block (cs := cs.toArray) (heap_alloc_new w _)

def unpl (s : Stk) : Stk := { s with pledge := false }

theorem stk_one (s : Stk) : ∀ u ∈ s.cells, u.oneCell' = true := fun u hu => by
  simp [Stk.cells] at hu
  rcases hu with rfl | rfl | rfl | rfl | rfl | rfl | rfl | rfl | rfl <;> rfl

theorem own_base {w : World} {base e size n : Nat} {v : Value} {xs : List Value} (h : w.ownsRow base e size v n xs) : ∀ k', v.ownBlock = some k' → base ≤ k' := fun k' hk' => by
  rcases h.2 with ⟨rfl, _⟩ | ⟨g, cap, cur, rfl, hbg, _⟩
  · exact absurd hk' (by simp [Value.ownBlock])
  · have : g = k' := by simpa [Value.ownBlock] using hk'
    omega

theorem append_stock {w : World} {base : Nat} {v : Value} {xs : List Stk} (hown : OwnSt w base v xs) (s : Stk) (g : Nat) (t : TypeId) (hg : w.heap[g]? = some (.cells #[.string s.name, .bool s.cash, .bool s.pledge, .int .i64 s.unit, .int .i64 s.least, .int .i64 s.price, .int .i64 s.cut, .int .i64 s.close, .int .i64 s.qty] t (0, 0)))
    (hl : xs.length ≤ 1000) (hb : base ≤ w.heap.size) (ty : TypeId) :
    ∃ v' w', (Builtin.append_ #[22, 22] ty #[v, .slice (some ⟨g, 0, none⟩) 1 1]).run Try.prog w = .ok v' w' ∧ OwnSt w' base v' (xs ++ [s]) ∧ Below base w w' := by
  obtain ⟨i0, hi, hz0, hz1, hz2⟩ := info_parts infoS
  obtain ⟨v', w', h1, h2, h3, _, _⟩ := run_append_own_at (P := Try.prog) w base 22 ty 27 i0 (.agg #[.string ByteArray.empty, .bool false, .bool false, .int .i64 0, .int .i64 0, .int .i64 0, .int .i64 0, .int .i64 0, .int .i64 0]) 9 72 Try.underlying22 hi hz0 hz1 hz2 rfl (by decide) v xs.length (stCells xs) hown ⟨g, 0, none⟩ 1 1 s.cells rfl
    (World.news_of_block hg) (stk_one s) (by unfold maxLen; omega) (by omega) hb
  refine ⟨v', w', h1, ?_, (Below.refl _ _).grown h3 hb (own_base hown)⟩
  unfold OwnSt
  rw [stCells_snoc, List.length_append]
  exact h2

theorem wpList_append_run {P : Program} {w w' : World} {ops : Array Oper} {rest : List Oper} {o : Oper} {a : Act} {Q : Exit → Act → World → Prop} (hgd : o.guard = none) (s x : Operand) (t : TypeId) (v u v' : Value)
    (ho : o.op = .call { callee := .builtin .append, args := #[s, x], argTypes := #[t, t] }) (hs : a.eval s = v) (hx : a.eval x = u)
    (hrun : (Builtin.append_ #[t, t] o.type #[v, u]).run P w = .ok v' w') (h : wpList P ops Q rest (a.put o.dst v') w') : wpList P ops Q (o :: rest) a w := by
  refine wpList_plain hgd fun K hK => ?_
  unfold Oper.wp execOp
  simp only [ho, resolve, invoke, builtin, Sem.run_bind, Sem.run_pure, Result.andThen_ok, List.map_toArray, List.map_cons, List.map_nil, hs, hx, hrun]
  exact hK _ _ h

set_option maxRecDepth 100000 in
set_option maxHeartbeats 1600000 in
theorem ValueNone_walk (want : Int) (v : Value) (xs : List Stk) (w : World) (hw : (Lit.int .i64 want).wf = true) (hv : StocksAt w v xs) :
    Calls Try.prog 5 #[.int .i64 want, v] w fun e w' => e = .returned (.bool true) ∧ Below w.heap.size w w' := by
  have HI := Lib.hid (i64_of hw)
  clear hw
  obtain ⟨a, c, rfl, hlen, hwf, hcs⟩ := hv
  obtain ⟨n, hn⟩ : ∃ n, n = xs.length := ⟨_, rfl⟩
  rw [← hn] at hlen ⊢
  have HN := Lib.hid hn
  have HX := Lib.hid hcs
  have HW := Lib.hid hwf
  clear hn hcs hwf
  by_cases hg : 40 < n
  · have hg2 : decide ((40 : Int) < (n : Int)) = true := by simp; omega
    go_enter Try.func5, Try.ntmps5
    go_wp2_with (go_at_call 7; refine (alive_any _).mono ?_; rintro e w2 ⟨rfl, hb2⟩)
    go_ret
    exact ⟨rfl, hb2⟩
  have hg2 : decide ((40 : Int) < (n : Int)) = false := by simp; omega
  by_cases hw1 : want < 1
  · have hw2 : decide (want < 1) = true := by simpa using hw1
    go_enter Try.func5, Try.ntmps5
    go_wp2_with (go_at_call 7; refine (alive_any _).mono ?_; rintro e w2 ⟨rfl, hb2⟩)
    go_ret
    exact ⟨rfl, hb2⟩
  have hw2 : decide (want < 1) = false := by simpa using hw1
  have HW1 := Lib.hid (show 1 ≤ want by omega)
  clear hw1
  obtain ⟨i0, hi, hz0, hz1, hz2⟩ := info_parts infoS
  go_enter Try.func5, Try.ntmps5
  go_wp2
  go_loopw [5, 6] (fun o i wr => ∃ (k : Nat) (x : Value), x = o ∧ i = .int .i64 k ∧ k ≤ n ∧ Hid (OwnSt wr w.heap.size x ((xs.take k).map unpl)) ∧ Below w.heap.size w wr) (fun _ i _ => (n - RowKit.intOf i).toNat)
  case atStart => exact ⟨0, _, rfl, rfl, Nat.zero_le _, Lib.hid (World.ownsRow_nil _ _ _ _), Below.refl _ _⟩
  case round =>
    obtain ⟨k, x, rfl, rfl, hk, HO, hbw⟩ := hrel
    have HB := Lib.hid hbw
    by_cases hlt : k < n
    · have hltz : (k : Int) < (n : Int) := by omega
      have h2 : k < xs.length := by rw [← HN.out]; exact hlt
      obtain ⟨b, off, rfl, hbl, c0, c1, c2, c3, c4, c5, c6, c7, c8⟩ := stk_cells HX.out (k := k) h2
      have hsn : (xs.take (k + 1)).map unpl = (xs.take k).map unpl ++ [unpl (xs.getD k stk0)] := by
        rw [List.take_succ_eq_append_getElem h2, List.map_append]
        simp [List.getD, h2]
      obtain ⟨s, hs⟩ : ∃ s, s = xs.getD k stk0 := ⟨_, rfl⟩
      rw [← hs] at c0 c1 c2 c3 c4 c5 c6 c7 c8 hsn
      have HSN := Lib.hid hsn
      rw [← hbw.cell (p := ⟨b, _, none⟩) hbl] at c0 c1 c2 c3 c4 c5 c6 c7 c8
      have hzl : ((xs.take k).map unpl).length = k := by rw [List.length_map, List.length_take]; omega
      have hsz := hbw.size
      have ho2 : OwnSt ((wr.alloc (.cells #[.string s.name, .bool s.cash, .bool false, .int .i64 s.unit, .int .i64 s.least, .int .i64 s.price, .int .i64 s.cut, .int .i64 s.close, .int .i64 s.qty] 27)).alloc (.cells #[.string s.name, .bool s.cash, .bool false, .int .i64 s.unit, .int .i64 s.least, .int .i64 s.price, .int .i64 s.cut, .int .i64 s.close, .int .i64 s.qty] 27)) w.heap.size x ((xs.take k).map unpl) := World.ownsRow.alloc (World.ownsRow.alloc HO.out _) _
      obtain ⟨v', w5, hrun, hown', hb5⟩ := append_stock ho2 (unpl s) (wr.heap.size + 1) 27 (by have := heap_alloc_new (wr.alloc (.cells #[.string s.name, .bool s.cash, .bool false, .int .i64 s.unit, .int .i64 s.least, .int .i64 s.price, .int .i64 s.cut, .int .i64 s.close, .int .i64 s.qty] 27)) (.cells #[.string s.name, .bool s.cash, .bool false, .int .i64 s.unit, .int .i64 s.least, .int .i64 s.price, .int .i64 s.cut, .int .i64 s.close, .int .i64 s.qty] 27); simpa [unpl] using this) (by omega) (by simp; omega) 22
      rw [← hsn] at hown'
      have HR := Lib.hid hrun
      have HO2 := Lib.hid hown'
      have HB5 := Lib.hid (Below.trans ((HB.out.alloc HB.out.size (.cells #[.string s.name, .bool s.cash, .bool false, .int .i64 s.unit, .int .i64 s.least, .int .i64 s.price, .int .i64 s.cut, .int .i64 s.close, .int .i64 s.qty] 27)).alloc (by simp; omega) (.cells #[.string s.name, .bool s.cash, .bool false, .int .i64 s.unit, .int .i64 s.least, .int .i64 s.price, .int .i64 s.cut, .int .i64 s.close, .int .i64 s.qty] 27)) hb5)
      clear hs hsn h2 hzl hbw ho2 hrun hown' hb5
      go_wp2_with (at_builtin; refine wpList_append_run rfl _ _ _ _ _ _ rfl rfl rfl HR.out ?_)
      go_roundw
      case rel => exact ⟨k + 1, _, rfl, by go_num, by omega, HO2, HB5.out⟩
      case measure => simp [RowKit.intOf]; omega
    · have hltz : ¬ (k : Int) < (n : Int) := by omega
      obtain rfl : k = n := by omega
      have e0 : xs.take k = xs := List.take_of_length_le (by rw [← HN.out]; exact Nat.le_refl _)
      have hno : ∀ x ∈ xs.map unpl, x.pledge = false := fun x hx => by
        obtain ⟨y, _, rfl⟩ := List.mem_map.1 hx; rfl
      have hwm : ∀ x ∈ xs.map unpl, x.wf := fun x hx => by
        obtain ⟨y, hy, rfl⟩ := List.mem_map.1 hx; exact HW.out y hy
      have hst : StocksAt wr x (xs.map unpl) := stocks_row (by have := HO.out; rw [e0] at this; exact this) (by rw [List.length_map, ← HN.out]; exact hlen) hwm
      have hp := pick_none (xs.map unpl) want hno
      have HP := Lib.hid (pick_any want x (xs.map unpl) wr hst HI.out)
      have HPN := Lib.hid hp
      have HQ := Lib.hid (fun W (h : StocksAt W x (xs.map unpl)) => worths_any x (xs.map unpl) W h)
      rw [worth_none (xs.map unpl) 0 hno] at HQ
      have HST := Lib.hid hst
      clear hp hst hwm hno e0 hltz
      go_wp2_with fail
      refine HP.out.mono ?_
      rintro e w1 ⟨hb1, v1, k1, rfl, hpi⟩
      have hpi2 : v1 = .slice none 0 0 ∧ k1 = 32 := by
        have h1 := HW1.out
        rcases hpi with ⟨h, _⟩ | ⟨_, _, h2, h3⟩ | ⟨_, h, _⟩
        · omega
        · exact ⟨h2, h3⟩
        · rw [HPN.out] at h; simp at h; omega
      obtain ⟨rfl, rfl⟩ := hpi2
      have HB1 := Lib.hid (HB.out.trans (hb1.mono HB.out.size))
      have HST1 := Lib.hid (HST.out.below hb1)
      clear hb1 hpi
      go_wp2_with fail
      refine (HQ.out _ HST1.out).mono ?_
      rintro e w2 ⟨rfl, hb2⟩
      have HB2 := Lib.hid (HB1.out.trans (hb2.mono HB1.out.size))
      clear hb2
      go_wp2_with fail
      refine (alive_any _).mono ?_
      rintro e w3 ⟨rfl, hb3⟩
      go_wp2
      go_ret
      exact ⟨rfl, HB2.out.trans (hb3.mono HB2.out.size)⟩

end Go.Proofs.Ytnehamkpeeadjaa
