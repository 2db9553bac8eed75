/-
  The Book: lists that are grown, of any kind.
-/
import Derived.Test.YtgbknjpjhkegdaaGreatBookM
namespace Go.Proofs.YtgbknjpjhkegdaaGreat
open Go.RowKit
set_option linter.unusedVariables false

/-- Since w0 the first lists of L have been grown: the grown ones are O, their heads in the row ov. -/
structure Growing {α : Type} (cs : α → List Value) (te size th base bk : Nat) (w0 : World) (tv : Value) (L : List (Value × List α)) (w : World) (ov : Value) (O : List (Value × List α)) : Prop where
  old : Lists cs te size th base bk w tv L
  new : Lists cs te size th base bk w ov O
  link : ∀ (i : Nat) (x : Value × List α), O[i]? = some x → ∀ k, x.1.ownBlock = some k → (∃ y : Value × List α, L[i]? = some y ∧ y.1.ownBlock = some k) ∨ w0.heap.size ≤ k
  row : ∀ k, ov.ownBlock = some k → w0.heap.size ≤ k
  lt : ∀ x ∈ L, ∀ k, x.1.ownBlock = some k → k < w0.heap.size
  tlt : ∀ k, tv.ownBlock = some k → k < w0.heap.size
  bklt : bk < w0.heap.size
  turned : Turned (fun k => ∃ x ∈ L, x.1.ownBlock = some k) w0 w

/-- The list number O.length is being grown: it is l, with ls in it. -/
structure Grows1 {α : Type} (cs : α → List Value) (te size th base bk : Nat) (w0 : World) (tv : Value) (L : List (Value × List α)) (w : World) (ov : Value) (O : List (Value × List α)) (y : Value × List α) (H : Nat) (l : Value) (ls : List α) : Prop where
  g : Growing cs te size th base bk w0 tv L w ov O
  hy : L[O.length]? = some y
  own : w.ownsRow base te size l ls.length (ls.flatMap cs)
  at_ : ∀ k, l.ownBlock = some k → y.1.ownBlock = some k ∨ H ≤ k
  len : y.2.length ≤ ls.length
  h0 : w0.heap.size ≤ H
  olt : ∀ x ∈ O, ∀ k, x.1.ownBlock = some k → k < H
  ovlt : ∀ k, ov.ownBlock = some k → k < H

section
variable {α : Type} {cs : α → List Value} {te size th base bk : Nat} {w0 w w' : World} {tv ov : Value} {L O : List (Value × List α)} {y : Value × List α} {H : Nat} {l : Value} {ls : List α}

theorem Growing.start (h : Lists cs te size th base bk w0 tv L) (hb : bk < w0.heap.size) : Growing cs te size th base bk w0 tv L w0 (.slice none 0 0) [] :=
  ⟨h, Lists.nil _, by simp, by simp [Value.ownBlock], fun x hx k hk => ((h.each x hx).lt k hk).2, fun k hk => (h.row.lt k hk).2, hb, Turned.refl _ _⟩

theorem Growing.below (h : Growing cs te size th base bk w0 tv L w ov O) (hw : Below w.heap.size w w') : Growing cs te size th base bk w0 tv L w' ov O :=
  ⟨h.old.below hw, h.new.below hw, h.link, h.row, h.lt, h.tlt, h.bklt, h.turned.trans (Turned.of_below hw _)⟩

theorem Growing.first (h : Growing cs te size th base bk w0 tv L w ov O) (hy : L[O.length]? = some y) : Grows1 cs te size th base bk w0 tv L w ov O y w.heap.size y.1 y.2 :=
  have hm : y ∈ L := by obtain ⟨hi, e⟩ := List.getElem?_eq_some_iff.1 hy; exact e ▸ List.getElem_mem hi
  ⟨h, hy, h.old.each y hm, fun k hk => .inl hk, Nat.le_refl _, h.turned.size, fun x hx k hk => ((h.new.each x hx).lt k hk).2, fun k hk => (h.new.row.lt k hk).2⟩

theorem Grows1.below (h : Grows1 cs te size th base bk w0 tv L w ov O y H l ls) (hw : Below w.heap.size w w') : Grows1 cs te size th base bk w0 tv L w' ov O y H l ls :=
  ⟨h.g.below hw, h.hy, own_turned h.own (Turned.of_below hw fun _ => False) (fun _ _ e => e), h.at_, h.len, h.h0, h.olt, h.ovlt⟩

theorem Grows1.hym (h : Grows1 cs te size th base bk w0 tv L w ov O y H l ls) : y ∈ L := by obtain ⟨hi, e⟩ := List.getElem?_eq_some_iff.1 h.hy; exact e ▸ List.getElem_mem hi
/-- It lies in no block of a list that has been grown. -/
theorem Grows1.apart (h : Grows1 cs te size th base bk w0 tv L w ov O y H l ls) : ∀ x ∈ O, ∀ k, x.1.ownBlock = some k → l.ownBlock ≠ some k := fun x hx k hk e => by
  obtain ⟨i, hi, hxi⟩ := List.mem_iff_getElem.1 hx
  have hlt := h.olt x hx k hk
  rcases h.at_ k e with e' | e'
  · rcases h.g.link i x (by rw [List.getElem?_eq_getElem hi, hxi]) k hk with ⟨z, hz, hzk⟩ | h2
    · exact h.g.old.other hz h.hy (by omega) k hzk e'
    · have := h.g.lt y h.hym k e'
      omega
  · omega

/-- An append onto it, in the world w. -/
theorem Grows1.append {P : Program} {t ty : TypeId} {i0 : TypeInfo} {z : Value} {bytes : Nat} (h : Grows1 cs te size th base bk w0 tv L w ov O y H l ls) (he : te ≠ th) (ht : P.underlying t = some (.slice te)) (hi : P.info? te = some i0) (hz : i0.zero = some z)
    (hsize : i0.size = size) (hby : i0.bytes = bytes) (hzs : z.cells.size = size) (hsz : 0 < size) (hcs : ∀ a, ∀ u ∈ cs a, u.oneCell' = true)
    {m : Value} {ms : List α} (hm : ∃ base', w.ownsRow base' te size m ms.length (ms.flatMap cs)) (hm0 : 0 < ms.length) (h63 : ls.length + ms.length ≤ 1000000) (hbytes : bytes ≤ 10000) (hbase : base ≤ bk) (hH : H ≤ w.heap.size) :
    ∃ l' w', (Builtin.append_ #[t, t] ty #[l, m]).run P w = .ok l' w' ∧ Grows1 cs te size th base bk w0 tv L w' ov O y H l' (ls ++ ms) ∧ w.heap.size ≤ w'.heap.size := by
  obtain ⟨base', hm⟩ := hm
  obtain ⟨g, cap, rfl, _, _, _, hc⟩ := own_row_cell hm hm0
  obtain ⟨l', w', h1, h2, h3, h4, h5⟩ := run_append_far (P := P) w base t ty te i0 z size bytes ht hi hz hsize hby hzs hsz l ls.length (ls.flatMap cs) h.own ⟨g, 0, none⟩ ms.length cap (ms.flatMap cs) hm.1
    (fun j u hu => by rw [Addr.add_lit]; simpa using hc j u hu) (fun u hu => by obtain ⟨a, _, ha⟩ := List.mem_flatMap.1 hu; exact hcs a u ha) (by unfold maxLen; omega)
    (Nat.le_trans (Nat.mul_le_mul h63 hbytes) (by decide)) (by have := h.g.bklt; have := h.g.turned.size; omega)
  have hl' : ∀ k, l'.ownBlock = some k → l.ownBlock = some k ∨ w.heap.size ≤ k := fun k hk => by
    rcases h4 with e | e
    · exact .inl (e.symm.trans hk)
    · rw [e] at hk; injection hk with hk; exact .inr (by omega)
  have hth : ∀ {v : Value} {n : Nat} {xs : List Value}, w.ownsRow base th 1 v n xs → ∀ k, v.ownBlock = some k → ¬ l'.ownBlock = some k := fun hv k hk e => by
    rcases hl' k e with e' | e'
    · exact own_unlike h.own hv he k e' hk
    · have := (hv.lt k hk).2
      omega
  refine ⟨l', w', h1, ⟨⟨⟨own_turned h.g.old.row h3 (hth h.g.old.row), h.g.old.rowfar, fun x hx => h5 _ _ _ _ (h.g.old.each x hx) fun k hk e => ?_, h.g.old.far, h.g.old.apart⟩, ⟨own_turned h.g.new.row h3 (hth h.g.new.row), h.g.new.rowfar, fun x hx => h5 _ _ _ _ (h.g.new.each x hx) fun k hk e => absurd e (h.apart x hx k hk), h.g.new.far, h.g.new.apart⟩,
    h.g.link, h.g.row, h.g.lt, h.g.tlt, h.g.bklt, h.g.turned.trans' h3 fun k hk e => ?_⟩, h.hy, by rw [List.length_append, List.flatMap_append]; exact h2, fun k hk => ?_, by have := h.len; rw [List.length_append]; omega, h.h0, h.olt, h.ovlt⟩, h3.size⟩
  · have hlt := h.g.lt x hx k hk
    rcases h.at_ k e with e' | e'
    · obtain ⟨i, hi, hxi⟩ := List.mem_iff_getElem.1 hx
      by_cases hij : i = O.length
      · subst hij
        have := h.hy
        rw [List.getElem?_eq_getElem hi, hxi] at this
        injection this with this
        rw [this]
        exact h.len
      · exact absurd e' (h.g.old.other (by rw [List.getElem?_eq_getElem hi, hxi]) h.hy hij k hk)
    · have := h.h0
      omega
  · rcases hl' k e with e' | e'
    · rcases h.at_ k e' with e2 | e2
      · exact ⟨y, h.hym, e2⟩
      · have := h.h0
        omega
    · have := h.g.turned.size
      omega
  · rcases hl' k hk with e' | e'
    · exact h.at_ k e'
    · exact .inr (by omega)

/-- It joins the row of those that have been grown. -/
theorem Grows1.join {P : Program} {tt : TypeId} (hh : Heads P tt th) (h : Grows1 cs te size th base bk w0 tv L w ov O y H l ls) (he : te ≠ th) (hn : O.length < 1000) (hbase : base ≤ bk) (hH : H ≤ w.heap.size) (ty : TypeId) :
    ∃ ov' w', (Builtin.append_ #[tt, tt] ty #[ov, .slice (some ⟨w.heap.size, 0, none⟩) 1 1]).run P (w.alloc (.cells #[l] th)) = .ok ov' w' ∧ Growing cs te size th base bk w0 tv L w' ov' (O ++ [(l, ls)]) := by
  obtain ⟨ov', w', h1, h2, h3, h4⟩ := heads_append hh h.g.new.row l (own_one h.own) (by omega) (by have := h.g.bklt; have := h.g.turned.size; omega) ty
  have hA := h.below ((Below.refl _ w).alloc (Nat.le_refl _) (.cells #[l] th))
  have hsz : (w.alloc (.cells #[l] th)).heap.size = w.heap.size + 1 := by simp
  have hs0 := h.g.turned.size
  have hov : ∀ k, ov'.ownBlock = some k → w0.heap.size ≤ k := fun k hk => by
    rcases h4 with e | e
    · exact h.g.row k (e.symm.trans hk)
    · rw [e, hsz] at hk
      injection hk with hk
      omega
  refine ⟨ov', w', h1, hA.g.old.keep h3 (fun k hk e => ?_) (fun x hx k hk e => ?_), hA.g.new.snoc he (x := (l, ls)) hA.own (fun e => ?_) hA.apart (by simpa using h2) h3 h4 (by have := h.g.bklt; omega), fun i x hx k hk => ?_, hov, h.g.lt, h.g.tlt, h.g.bklt, hA.g.turned.trans' h3 fun k hk e => ?_⟩
  · have := hov k e
    have := h.g.tlt k hk
    omega
  · have := hov k e
    have := h.g.lt x hx k hk
    omega
  · rcases h.at_ bk e with e' | e'
    · exact h.g.old.far' y h.hym e'
    · have := h.g.bklt
      have := h.h0
      omega
  · rcases Nat.lt_or_ge i O.length with hi | hi
    · rw [List.getElem?_append_left hi] at hx
      exact h.g.link i x hx k hk
    · rw [List.getElem?_append_right hi] at hx
      by_cases hi0 : i - O.length = 0
      · have hiO : i = O.length := by omega
        rw [hi0] at hx
        injection hx with hx
        subst hx
        rcases h.at_ k hk with e' | e'
        · exact .inl ⟨y, by rw [hiO]; exact h.hy, e'⟩
        · exact .inr (by have := h.h0; omega)
      · obtain ⟨q, hq⟩ : ∃ q, i - O.length = q + 1 := ⟨i - O.length - 1, by omega⟩
        rw [hq] at hx
        simp at hx
  · have := hov k e
    omega
end
end Go.Proofs.YtgbknjpjhkegdaaGreat
