/-
  The Book: the two steps of one more list, of any kind.
-/
import Derived.Test.YtgbknjpjhkegdaaGreatBookL
import Derived.WalkKit
namespace Go.Proofs.YtgbknjpjhkegdaaGreat
open Go.RowKit

theorem wpB_append_run {P : Program} {w w' : World} {o : Oper} {a : Act} {K : Act → World → Prop} {Q : Exit → Act → World → Prop} (s x : Operand) (t : TypeId) (v u v' : Value)
    (ho : o.op = .call { callee := .builtin .append, args := #[s, x], argTypes := #[t, t] }) (hs : a.eval s = v) (hx : a.eval x = u)
    (hrun : (Builtin.append_ #[t, t] o.type #[v, u]).run P w = .ok v' w') (h : K (a.put o.dst v') w') : Oper.wp P o a w K Q := by
  unfold Oper.wp execOp
  simp only [ho, resolve, invoke, builtin, Sem.run_bind, Sem.run_pure, Result.andThen_ok, List.map_toArray, List.map_cons, List.map_nil, hs, hx, hrun]
  exact h
theorem stepB_append_run {P : Program} {w w' : World} {ops : Array Oper} {o : Oper} {a : Act} {K : Act → World → Prop} {Q : Exit → Act → World → Prop} {E : Prop} (hgd : o.guard = none) (s x : Operand) (t : TypeId) (v u v' : Value)
    (ho : o.op = .call { callee := .builtin .append, args := #[s, x], argTypes := #[t, t] }) (hs : a.eval s = v) (hx : a.eval x = u)
    (hrun : (Builtin.append_ #[t, t] o.type #[v, u]).run P w = .ok v' w') (h : K (a.put o.dst v') w') : if Region.wanted o (yielded ops a.tmps) = true then Oper.wp P o a w K Q else E := by
  have hw : Region.wanted o (yielded ops a.tmps) = true := by simp [Region.wanted, hgd]
  rw [if_pos hw]
  exact wpB_append_run s x t v u v' ho hs hx hrun h


/-- What the program's table says of the type of the heads: tt: the type of a row of heads; th: of a head. -/
structure Heads (P : Program) (tt th : TypeId) : Prop where
  under : P.underlying tt = some (.slice th)
  info : (P.info? th).map (fun i => (i.zero, i.size, i.bytes)) = some (some (.slice none 0 0), 1, 24)

theorem heads_append {P : Program} {tt th : TypeId} (hh : Heads P tt th) {w : World} {base n : Nat} {v : Value} {xs : List Value} (hown : w.ownsRow base th 1 v n xs) (x : Value) (hx : x.oneCell' = true) (hl : n ≤ 1000) (hb : base ≤ w.heap.size) (ty : TypeId) :
    ∃ v' w', (Builtin.append_ #[tt, tt] ty #[v, .slice (some ⟨w.heap.size, 0, none⟩) 1 1]).run P (w.alloc (.cells #[x] th)) = .ok v' w' ∧ w'.ownsRow base th 1 v' (n + 1) (xs ++ [x]) ∧ Turned (fun k => v'.ownBlock = some k) (w.alloc (.cells #[x] th)) w' ∧ (v'.ownBlock = v.ownBlock ∨ v'.ownBlock = some (w.alloc (.cells #[x] th)).heap.size) := by
  obtain ⟨i0, hi, hz0, hz1, hz2⟩ := info_parts hh.info
  obtain ⟨v', w', h1, h2, h3, h4, _⟩ := run_append_far (P := P) (w.alloc (.cells #[x] th)) base tt ty th i0 (.slice none 0 0) 1 24 hh.under hi hz0 hz1 hz2 rfl (by decide) v n xs (World.ownsRow.alloc hown _) ⟨w.heap.size, 0, none⟩ 1 1 [x] rfl
    (cell_one_new _ _ _) (fun u hu => by simp at hu; rw [hu]; exact hx) (by unfold maxLen; omega) (by omega) (by simp; omega)
  exact ⟨v', w', h1, h2, h3, h4⟩

theorem own_one {w : World} {base e size n : Nat} {v : Value} {xs : List Value} (h : w.ownsRow base e size v n xs) : v.oneCell' = true := by
  rcases h.2 with ⟨rfl, _⟩ | ⟨g, cap, cur, rfl, _⟩ <;> rfl

section
variable {P : Program} {tt : TypeId} {α : Type} {cs : α → List Value} {te size th base bk s : Nat} {w : World} {tv wv : Value} {L C : List (Value × List α)}

theorem kind_step1 (hh : Heads P tt th) (hk : Kind cs te size th base bk s w tv wv L C) (he : te ≠ th) (hb : base ≤ bk) (hn : L.length < 1000) {v : Value} {ss : List α} (hv : w.ownsRow base te size v ss.length (ss.flatMap cs)) (hf : v.ownBlock ≠ some bk)
    (ha : ∀ y ∈ L, ∀ k, y.1.ownBlock = some k → v.ownBlock ≠ some k) (ty : TypeId) :
    ∃ tv' w2, (Builtin.append_ #[tt, tt] ty #[tv, .slice (some ⟨w.heap.size, 0, none⟩) 1 1]).run P (w.alloc (.cells #[v] th)) = .ok tv' w2 ∧ Kind cs te size th base bk s (w2.setCell ⟨bk, s, none⟩ tv') tv' wv (L ++ [(v, ss)]) C ∧
      Turned (fun k => k = bk ∨ tv.ownBlock = some k) w (w2.setCell ⟨bk, s, none⟩ tv') ∧ (∀ j, j ≠ s → (w2.setCell ⟨bk, s, none⟩ tv').cell? ⟨bk, j, none⟩ = w.cell? ⟨bk, j, none⟩) ∧ w2.cell? ⟨bk, s, none⟩ = some tv ∧ w2.frozen? ⟨bk, s, none⟩ = false := by
  have hlt := hk.lt
  obtain ⟨tv', w2, h1, h2, h3, h4⟩ := heads_append hh hk.lists.row v (own_one hv) (by omega) (by omega) ty
  have hk1 := hk.below ((Below.refl _ _).alloc (Nat.le_refl _) (.cells #[v] th))
  have hsz : (w.alloc (.cells #[v] th)).heap.size = w.heap.size + 1 := by simp
  have hall : ∀ T : Nat → Prop, Turned T w (w.alloc (.cells #[v] th)) := fun T => (Turned.refl _ _).alloc _
  have hnb : ¬ tv'.ownBlock = some bk := fun e => by
    rcases h4 with e' | e'
    · exact hk.lists.rowfar (e'.symm.trans e)
    · rw [e', hsz] at e
      injection e with e
      omega
  refine ⟨tv', w2, h1, hk1.add1 he (x := (v, ss)) (World.ownsRow.alloc hv _) hf ha (by simpa using h2) h3 h4, ?_, fun j hj => ?_, ?_⟩
  · refine Turned.setCell (T := fun k => k = bk ∨ tv.ownBlock = some k) ((hall _).trans' h3 fun i hi e => ?_) (p := ⟨bk, s, none⟩) (.inl rfl) tv'
    rcases h4 with e' | e'
    · exact .inr (e'.symm.trans e)
    · rw [e', hsz] at e
      injection e with e
      omega
  · rw [cell_store_ne (fun e => hj e.symm), h3.cell (p := ⟨bk, j, none⟩) (by rw [hsz]; show bk < _; omega) hnb]
    exact (hall fun _ => False).cell (p := ⟨bk, j, none⟩) hlt (fun e => e)
  · rw [h3.cell (p := ⟨bk, s, none⟩) (by rw [hsz]; show bk < _; omega) hnb, h3.frozen (p := ⟨bk, s, none⟩) (by rw [hsz]; show bk < _; omega) hnb]
    exact ⟨((hall fun _ => False).cell (p := ⟨bk, s, none⟩) hlt (fun e => e)).trans hk.c0, ((hall fun _ => False).frozen (p := ⟨bk, s, none⟩) hlt (fun e => e)).trans hk.f0⟩

theorem kind_step2 (hh : Heads P tt th) (hk : Kind cs te size th base bk s w tv wv L C) (he : te ≠ th) (hb : base ≤ bk) (hn : C.length < 1000) {v : Value} {ss : List α} (hv : w.ownsRow base te size v ss.length (ss.flatMap cs)) (hf : v.ownBlock ≠ some bk)
    (ha : ∀ y ∈ C, ∀ k, y.1.ownBlock = some k → v.ownBlock ≠ some k) (ty : TypeId) :
    ∃ wv' w2, (Builtin.append_ #[tt, tt] ty #[wv, .slice (some ⟨w.heap.size, 0, none⟩) 1 1]).run P (w.alloc (.cells #[v] th)) = .ok wv' w2 ∧ Kind cs te size th base bk s (w2.setCell ⟨bk, s + 1, none⟩ wv') tv wv' L (C ++ [(v, ss)]) ∧
      Turned (fun k => k = bk ∨ wv.ownBlock = some k) w (w2.setCell ⟨bk, s + 1, none⟩ wv') ∧ (∀ j, j ≠ s + 1 → (w2.setCell ⟨bk, s + 1, none⟩ wv').cell? ⟨bk, j, none⟩ = w.cell? ⟨bk, j, none⟩) ∧ w2.cell? ⟨bk, s + 1, none⟩ = some wv ∧ w2.frozen? ⟨bk, s + 1, none⟩ = false := by
  have hlt := hk.lt
  obtain ⟨wv', w2, h1, h2, h3, h4⟩ := heads_append hh hk.copies.row v (own_one hv) (by omega) (by omega) ty
  have hk1 := hk.below ((Below.refl _ _).alloc (Nat.le_refl _) (.cells #[v] th))
  have hsz : (w.alloc (.cells #[v] th)).heap.size = w.heap.size + 1 := by simp
  have hall : ∀ T : Nat → Prop, Turned T w (w.alloc (.cells #[v] th)) := fun T => (Turned.refl _ _).alloc _
  have hnb : ¬ wv'.ownBlock = some bk := fun e => by
    rcases h4 with e' | e'
    · exact hk.copies.rowfar (e'.symm.trans e)
    · rw [e', hsz] at e
      injection e with e
      omega
  refine ⟨wv', w2, h1, hk1.add2 he (x := (v, ss)) (World.ownsRow.alloc hv _) hf ha (by simpa using h2) h3 h4, ?_, fun j hj => ?_, ?_⟩
  · refine Turned.setCell (T := fun k => k = bk ∨ wv.ownBlock = some k) ((hall _).trans' h3 fun i hi e => ?_) (p := ⟨bk, s + 1, none⟩) (.inl rfl) wv'
    rcases h4 with e' | e'
    · exact .inr (e'.symm.trans e)
    · rw [e', hsz] at e
      injection e with e
      omega
  · rw [cell_store_ne (fun e => hj e.symm), h3.cell (p := ⟨bk, j, none⟩) (by rw [hsz]; show bk < _; omega) hnb]
    exact (hall fun _ => False).cell (p := ⟨bk, j, none⟩) hlt (fun e => e)
  · rw [h3.cell (p := ⟨bk, s + 1, none⟩) (by rw [hsz]; show bk < _; omega) hnb, h3.frozen (p := ⟨bk, s + 1, none⟩) (by rw [hsz]; show bk < _; omega) hnb]
    exact ⟨((hall fun _ => False).cell (p := ⟨bk, s + 1, none⟩) hlt (fun e => e)).trans hk.c1, ((hall fun _ => False).frozen (p := ⟨bk, s + 1, none⟩) hlt (fun e => e)).trans hk.f1⟩
end
end Go.Proofs.YtgbknjpjhkegdaaGreat
