/-
  A map of lists of numbers that is grown entry by entry: what one round does.
-/
import Derived.Test.YtnehamkpeeadjaaValQ
import Derived.Test.YtnehamkpeeadjaaValR
namespace Go.Proofs.Ytnehamkpeeadjaa
open Go.RowKit Go.Maps Go.WideMaps Held

/-- The amounts of an asset, as they come. -/
def gq (ps : List Pl) (s : ByteArray) : List Int := (ps.filter fun p => decide (p.1 = s)).map (·.2)
theorem gq_sum (ps : List Pl) (s : ByteArray) : (gq ps s).sum = qsum ps s := rfl
theorem gq_snoc (ps : List Pl) (p : Pl) (s : ByteArray) : gq (ps ++ [p]) s = gq ps s ++ if p.1 = s then [p.2] else [] := by
  unfold gq
  rw [List.filter_append, List.map_append]
  by_cases h : p.1 = s <;> simp [h]
theorem gq_len (ps : List Pl) (s : ByteArray) : (gq ps s).length ≤ ps.length := by
  unfold gq; rw [List.length_map]; exact List.length_filter_le _ _
theorem gq_wf {ps : List Pl} (h : ∀ p ∈ ps, i64 p.2) (s : ByteArray) : ∀ z ∈ gq ps s, i64 z := fun z hz => by
  obtain ⟨p, hp, rfl⟩ := List.mem_map.1 hz
  exact h p (List.mem_filter.1 hp).1

def nilV : Value := .slice none 0 0
/-- Block b is a map that has each asset's amounts, in rows of their own from block 'base' on. -/
structure Grp (w : World) (base b : Nat) (ps : List Pl) (D : DH) : Prop where
  map : MapH Try.prog 9 w b D
  size : Maps.size D ≤ ps.length
  has : ∀ s, hasV D s = true ↔ ∃ p ∈ ps, p.1 = s
  row : ∀ s, w.ownsRow base 3 1 (getV D s nilV) (gq ps s).length ((gq ps s).map (Value.int .i64))
  apart : ∀ s t, s ≠ t → (getV D s nilV).ownBlock = none ∨ (getV D s nilV).ownBlock ≠ (getV D t nilV).ownBlock
  lt : b < base

theorem own_lt {w : World} {base e size n : Nat} {v : Value} {xs : List Value} (h : w.ownsRow base e size v n xs) : ∀ g, v.ownBlock = some g → base ≤ g ∧ g < w.heap.size := fun g hg => by
  rcases h.2 with ⟨rfl, _⟩ | ⟨g', cap, cur, rfl, hb, hh, _⟩
  · exact absurd hg (by simp [Value.ownBlock])
  · have : g' = g := by simpa [Value.ownBlock] using hg
    subst this
    exact ⟨hb, (Array.getElem?_eq_some_iff.1 hh).1⟩

theorem Grp.step {w w' : World} {base b : Nat} {ps : List Pl} {D : DH} (h : Grp w base b ps D) (hb : Below w.heap.size w w') : Grp w' base b ps D :=
  ⟨h.map.below hb, h.size, h.has, fun s => own_below (h.row s) hb, h.apart, h.lt⟩

theorem infoI : (Try.prog.info? 3).map (fun i => (i.zero, i.size, i.bytes)) = some (some (.int .i64 0), 1, 8) := by kernel_rfl
theorem zeroL (w : World) : (zeroValue 50).run Try.prog w = .ok nilV w := by kernel_rfl

theorem Grp.look {w : World} {base b : Nat} {ps : List Pl} {D : DH} (h : Grp w base b ps D) {s : ByteArray} (hs : s.size ≤ maxLen) :
    (Instr.lookup 56 (.map (some b)) (.string s) false).run Try.prog w = .ok (getV D s nilV) w :=
  h.map.look Try.underlying9 Try.underlying56 (zeroL w) hs

theorem Grp.grow {w : World} {base b : Nat} {ps : List Pl} {D : DH} (h : Grp w base b ps D) {s : ByteArray} (hs : s.size ≤ maxLen) (q : Int) (g : Nat) (t ty : TypeId)
    (hg : w.heap[g]? = some (.cells #[.int .i64 q] t (0, 0))) (hl : ps.length ≤ 1000) (hbs : base ≤ w.heap.size) :
    ∃ v' w3 w4 D', (Builtin.append_ #[50, 50] ty #[getV D s nilV, .slice (some ⟨g, 0, none⟩) 1 1]).run Try.prog w = .ok v' w3 ∧
      (Instr.mapUpdate 56 (.map (some b)) (.string s) v').run Try.prog w3 = .ok () w4 ∧ Grp w4 base b (ps ++ [(s, q)]) D' ∧ Below b w w4 ∧
      (∀ p : Addr, p.block < w.heap.size → (getV D s nilV).ownBlock ≠ some p.block → p.block ≠ b → w3.cell? p = w.cell? p ∧ w4.cell? p = w.cell? p) := by
  obtain ⟨i0, hi, hz0, hz1, hz2⟩ := info_parts infoI
  have hlen := gq_len ps s
  obtain ⟨v', w3, h1, h2, h3, _, h5⟩ := run_append_own_at (P := Try.prog) w base 50 ty 3 i0 (.int .i64 0) 1 8 Try.underlying50 hi hz0 hz1 hz2 rfl (by decide) (getV D s nilV) (gq ps s).length _ (h.row s) ⟨g, 0, none⟩ 1 1 [.int .i64 q] rfl
    (World.news_of_block hg) (fun u hu => by simp at hu; subst hu; rfl) (by unfold maxLen; omega) (by omega) hbs
  have hnb : some b ≠ (getV D s nilV).ownBlock := fun e => by
    have := (own_lt (h.row s) b e.symm).1
    have := h.lt
    omega
  have hm3 : MapH Try.prog 9 w3 b D := h.map.of_block (h3.block b h.map.lt hnb)
  obtain ⟨w4, h6, h7, h8⟩ := hm3.put Try.underlying9 Try.underlying56 (by have := h.size; unfold maxLen; omega) hs v'
  have hbelow : Below b w w4 := ((Below.refl b w).grown h3 (by have := h.map.lt; omega) (fun k hk => by have := (own_lt (h.row s) k hk).1; have := h.lt; omega)).grown h8 (by have := h.map.lt; have := h3.size; omega) (fun k hk => by injection hk with hk; omega)
  refine ⟨v', w3, w4, putV D s v', h1, h6, ?_, hbelow, fun p hp hne hpb => by
    have e3 : w3.cell? p = w.cell? p := World.cell?_of_block (h3.block p.block hp (fun e => hne e.symm))
    exact ⟨e3, (World.cell?_of_block (h8.block p.block (Nat.lt_of_lt_of_le hp h3.size) (fun e => hpb (Option.some.inj e)))).trans e3⟩⟩
  have hkeep : ∀ (W W' : World) (u : Value) (n : Nat) (xs : List Value) (row : Option Nat), W.ownsRow base 3 1 u n xs → W.grownBy W' row → (u.ownBlock = none ∨ u.ownBlock ≠ row) → W'.ownsRow base 3 1 u n xs := fun W W' u n xs row a b c => a.kept b c
  have hv' : v'.ownBlock ≠ some b := fun e => by
    have := (own_lt h2 b e).1
    have := h.lt
    omega
  refine ⟨h7, ?_, fun t => ?_, fun t => ?_, fun t u htu => ?_, h.lt⟩
  · have hsz : Maps.size (putV D s v') ≤ Maps.size D + 1 := by
      unfold putV
      rw [size_put h.map.2.tidy]
      split <;> omega
    have := h.size
    rw [List.length_append]; simp; omega
  · rw [hasV_put h.map.2.isMap, h.has]
    simp only [List.mem_append, List.mem_singleton]
    constructor
    · rintro (rfl | ⟨p, hp, e⟩)
      · exact ⟨_, .inr rfl, rfl⟩
      · exact ⟨p, .inl hp, e⟩
    · rintro ⟨p, hp | rfl, e⟩
      · exact .inr ⟨p, hp, e⟩
      · exact .inl e.symm
  · rw [gq_snoc]
    by_cases e : t = s
    · subst e
      rw [getV_put_same h.map.2.isMap, if_pos rfl, List.length_append, List.map_append]
      exact hkeep _ _ _ _ _ _ h2 h8 (.inr hv')
    · rw [getV_put_other e, if_neg (fun e' => e e'.symm), List.append_nil]
      have h9 := hkeep _ _ _ _ _ _ (h.row t) h3 (h.apart t s e)
      exact hkeep _ _ _ _ _ _ h9 h8 (.inr fun e' => by
        have := (own_lt (h.row t) b e').1
        have := h.lt
        omega)
  · have hnew : ∀ x, x ≠ s → (getV D x nilV).ownBlock = none ∨ (getV D x nilV).ownBlock ≠ v'.ownBlock := fun x hx => by
      rcases h5 with h5 | h5
      · rw [h5]; exact h.apart x s hx
      · rw [h5]
        cases hob : (getV D x nilV).ownBlock with
        | none => exact .inl rfl
        | some k =>
          refine .inr fun e' => ?_
          injection e' with e'
          have := (own_lt (h.row x) k hob).2
          omega
    by_cases e1 : t = s
    · subst e1
      rw [getV_put_same h.map.2.isMap, getV_put_other (fun e => htu e.symm)]
      rcases hnew u (fun e => htu e.symm) with h | h
      · rw [h]
        cases hob : v'.ownBlock with
        | none => exact .inl rfl
        | some k => exact .inr (by simp)
      · exact .inr (Ne.symm h)
    · rw [getV_put_other e1]
      by_cases e2 : u = s
      · subst e2
        rw [getV_put_same h.map.2.isMap]
        exact hnew t e1
      · rw [getV_put_other e2]
        exact h.apart t u htu

theorem grp_start (w : World) : Grp (w.alloc (.map #[] 0)) (w.heap.size + 1) w.heap.size [] (.map []) :=
  ⟨mapH_made w, Nat.le_refl _, fun s => by simp [hasV_none], fun s => by rw [getV_no (hasV_none s)]; exact World.ownsRow_nil _ _ _ _, fun s t _ => .inl (by rw [getV_no (hasV_none s)]; rfl), Nat.lt_succ_self _⟩

/-- A row of numbers reads as they are. -/
theorem ints_row {w : World} {base : Nat} {v : Value} {xs : List Int} (h : w.ownsRow base 3 1 v xs.length (xs.map (Value.int .i64))) (hl : xs.length ≤ 1000) (hw : ∀ x ∈ xs, i64 x) : IntsAt w v xs := by
  rcases h.2 with ⟨rfl, h0⟩ | ⟨g, cap, cur, rfl, _⟩
  · obtain rfl := List.eq_nil_of_length_eq_zero h0
    exact ⟨none, 0, rfl, by simp, by simp, .inl rfl⟩
  · refine ⟨_, cap, rfl, by omega, fun x hx => i64_wf (hw x hx), ?_⟩
    by_cases hx : xs = []
    · exact .inl hx
    · obtain ⟨g', cap', e, _, hg, _, hc⟩ := row_cell h (List.length_pos_iff.2 hx)
      injection e with e _ _
      injection e with e
      injection e with e
      subst e
      refine .inr ⟨g, 0, rfl, hg, fun j hj => ?_⟩
      rw [Nat.zero_add]
      exact hc j _ (by simp [List.getD, hj])

end Go.Proofs.Ytnehamkpeeadjaa
