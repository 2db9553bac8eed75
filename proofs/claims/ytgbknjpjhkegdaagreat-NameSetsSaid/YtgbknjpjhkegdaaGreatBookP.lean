/-
  The Book: rows that are grown, and what stays beside them.
-/
import Derived.Maps.AppendAt
import Derived.Deep.AppendLies
import Derived.OwnWalk
import Derived.Below
import Derived.Lib.Hide
namespace Go.Proofs.YtgbknjpjhkegdaaGreat
open Go.RowKit

/-- From w to w' no old block turns but those of T; the streams are as they were. -/
structure Turned (T : Nat → Prop) (w w' : World) : Prop where
  os : w'.os = w.os
  tape : w'.tape = w.tape
  output : w'.output = w.output
  size : w.heap.size ≤ w'.heap.size
  block : ∀ k, k < w.heap.size → ¬ T k → w'.heap[k]? = w.heap[k]?

theorem Turned.refl (T : Nat → Prop) (w : World) : Turned T w w := ⟨rfl, rfl, rfl, Nat.le_refl _, fun _ _ _ => rfl⟩
theorem Turned.trans {T : Nat → Prop} {a b c : World} (h : Turned T a b) (k : Turned T b c) : Turned T a c :=
  ⟨k.os.trans h.os, k.tape.trans h.tape, k.output.trans h.output, Nat.le_trans h.size k.size, fun i hi ht => (k.block i (Nat.lt_of_lt_of_le hi h.size) ht).trans (h.block i hi ht)⟩
theorem Turned.mono {T T' : Nat → Prop} {w w' : World} (h : Turned T w w') (ht : ∀ k, k < w.heap.size → T k → T' k) : Turned T' w w' :=
  ⟨h.os, h.tape, h.output, h.size, fun k hk hn => h.block k hk fun e => hn (ht k hk e)⟩
/-- Two steps, of which the second turns some of the blocks that are new behind the first. -/
theorem Turned.trans' {T T' : Nat → Prop} {a b c : World} (h : Turned T a b) (k : Turned T' b c) (ht : ∀ i, i < a.heap.size → T' i → T i) : Turned T a c :=
  ⟨k.os.trans h.os, k.tape.trans h.tape, k.output.trans h.output, Nat.le_trans h.size k.size, fun i hi hn => (k.block i (Nat.lt_of_lt_of_le hi h.size) fun e => hn (ht i hi e)).trans (h.block i hi hn)⟩
theorem Turned.below {T : Nat → Prop} {w w' : World} {B : Nat} (h : Turned T w w') (hB : B ≤ w.heap.size) (ht : ∀ k, k < w.heap.size → T k → B ≤ k) : Below B w w' :=
  ⟨h.os, h.tape, h.output, h.size, fun k hk => h.block k (by omega) fun e => by have := ht k (by omega) e; omega⟩
theorem Turned.of_below {w w' : World} (h : Below w.heap.size w w') (T : Nat → Prop) : Turned T w w' := ⟨h.os, h.tape, h.output, h.size, fun k hk _ => h.block k hk⟩
theorem Turned.alloc {T : Nat → Prop} {a w : World} (h : Turned T a w) (o : Obj) : Turned T a (w.alloc o) :=
  h.trans (Turned.of_below ((Below.refl _ _).alloc (Nat.le_refl _) o) T)
theorem Turned.drew {T : Nat → Prop} {a w : World} (h : Turned T a w) : Turned T a w.drew := ⟨h.os, h.tape, h.output, h.size, h.block⟩
theorem Turned.setCell {T : Nat → Prop} {a w : World} (h : Turned T a w) {p : Addr} (hp : T p.block) (u : Value) : Turned T a (w.setCell p u) :=
  h.trans ⟨rfl, rfl, rfl, by simp [World.setCell], fun k _ hk => Below.heap_setCell _ _ _ _ (fun e => hk (by rw [e]; exact hp))⟩
theorem Turned.setCell_new {T : Nat → Prop} {a w : World} (h : Turned T a w) {p : Addr} (hp : a.heap.size ≤ p.block) (u : Value) : Turned T a (w.setCell p u) :=
  h.trans' (T' := fun k => k = p.block) ⟨rfl, rfl, rfl, by simp [World.setCell], fun k _ hk => Below.heap_setCell _ _ _ _ (fun e => hk e)⟩ (fun i hi e => by omega)
theorem Turned.cell {T : Nat → Prop} {w w' : World} (h : Turned T w w') {p : Addr} (hp : p.block < w.heap.size) (ht : ¬ T p.block) : w'.cell? p = w.cell? p :=
  World.cell?_of_block (w := w) (h.block p.block hp ht)

theorem Turned.frozen {T : Nat → Prop} {w w' : World} (h : Turned T w w') {p : Addr} (hp : p.block < w.heap.size) (ht : ¬ T p.block) : w'.frozen? p = w.frozen? p :=
  World.frozen?_of_block (w := w) (h.block p.block hp ht)

/-! ### Own rows -/
theorem own_keep {w w' : World} {base e size n : Nat} {v : Value} {xs : List Value} (h : w.ownsRow base e size v n xs) (hk : ∀ k, v.ownBlock = some k → w'.heap[k]? = w.heap[k]?) : w'.ownsRow base e size v n xs := by
  refine ⟨h.1, ?_⟩
  rcases h.2 with h | ⟨g, cap, cur, rfl, h2, h3, h4⟩
  · exact .inl h
  · exact .inr ⟨g, cap, cur, rfl, h2, (hk g rfl).trans h3, h4⟩
theorem own_turned {T : Nat → Prop} {w w' : World} {base e size n : Nat} {v : Value} {xs : List Value} (h : w.ownsRow base e size v n xs) (hw : Turned T w w') (hk : ∀ k, v.ownBlock = some k → ¬ T k) : w'.ownsRow base e size v n xs :=
  own_keep h fun k hv => hw.block k (h.lt k hv).2 (hk k hv)
theorem own_le {w : World} {base base' e size n : Nat} {v : Value} {xs : List Value} (h : w.ownsRow base e size v n xs) (hb : ∀ k, v.ownBlock = some k → base' ≤ k) : w.ownsRow base' e size v n xs := by
  refine ⟨h.1, ?_⟩
  rcases h.2 with h | ⟨g, cap, cur, rfl, h2, h3, h4⟩
  · exact .inl h
  · exact .inr ⟨g, cap, cur, rfl, hb g rfl, h3, h4⟩
/-- The front of an own row is an own row. -/
theorem own_front {w : World} {base e size n m cap g : Nat} {a : Option Nat} {xs ys : List Value} (h : w.ownsRow base e size (.slice (some ⟨g, 0, a⟩) m cap) m (xs ++ ys)) (hn : n ≤ m) (hx : xs.length = n * size) : w.ownsRow base e size (.slice (some ⟨g, 0, a⟩) n cap) n xs := by
  refine ⟨hx, ?_⟩
  rcases h.2 with ⟨h, _⟩ | ⟨g', cap', cur, hv, h2, h3, h4, h5, h6, h7⟩
  · cases h
  · injection hv with e1 e2 e3
    injection e1 with e1
    injection e1 with e0 _ e4
    subst e0 e3 e4
    refine .inr ⟨g, cap, cur, rfl, h2, h3, by omega, h5, h6, ?_⟩
    have hle : n * size ≤ m * size := Nat.mul_le_mul_right _ hn
    have : (cur.toList.take (m * size)).take (n * size) = cur.toList.take (n * size) := by rw [List.take_take, Nat.min_eq_left hle]
    rw [← this, h7, ← hx, List.take_left]
/-- The block of an own row has the elements' type. -/
theorem own_type {w : World} {base e size n : Nat} {v : Value} {xs : List Value} (h : w.ownsRow base e size v n xs) : ∀ k, v.ownBlock = some k → ∃ cur, w.heap[k]? = some (.cells cur e (0, 0)) := fun k hk => by
  rcases h.2 with ⟨rfl, _⟩ | ⟨g, cap, cur, rfl, h2, h3, h4⟩
  · cases hk
  · obtain rfl : g = k := by simpa [Value.ownBlock] using hk
    exact ⟨cur, h3⟩
/-- Rows of unlike elements lie in unlike blocks. -/
theorem own_unlike {w : World} {base base' e e' size size' n n' : Nat} {v v' : Value} {xs xs' : List Value} (h : w.ownsRow base e size v n xs) (h' : w.ownsRow base' e' size' v' n' xs') (he : e ≠ e') : ∀ k, v.ownBlock = some k → v'.ownBlock ≠ some k := fun k hk hk' => by
  obtain ⟨cur, h1⟩ := own_type h k hk
  obtain ⟨cur', h2⟩ := own_type h' k hk'
  rw [h1] at h2
  injection h2 with h2
  injection h2 with _ h2 _
  exact he h2
theorem own_row_cell {w : World} {base e size n : Nat} {v : Value} {xs : List Value} (h : w.ownsRow base e size v n xs) (hn : 0 < n) : ∃ g cap, v = .slice (some ⟨g, 0, none⟩) n cap ∧ base ≤ g ∧ g < w.heap.size ∧ n ≤ cap ∧ ∀ j u, xs[j]? = some u → w.cell? ⟨g, j, none⟩ = some u := by
  obtain ⟨hl, h2⟩ := h
  rcases h2 with ⟨_, h0⟩ | ⟨g, cap, cur, rfl, hb, hg, hnc, hc, hs, ht⟩
  · omega
  · refine ⟨g, cap, rfl, hb, (Array.getElem?_eq_some_iff.1 hg).1, hnc, fun j u hu => ?_⟩
    rw [cell_of_row _ _ _ cur _ (0, 0) hg]
    have hj : j < n * size := by rw [← hl]; exact (List.getElem?_eq_some_iff.1 hu).1
    rw [← ht, List.getElem?_take_of_lt hj, Array.getElem?_toList] at hu
    exact hu

section
variable {P : Program} (w : World)
/-- append onto an own row: the new row lies in the old row's block or in a new one; no other old block turns; in a new one: none at all. -/
theorem run_append_far (base : Nat) (t ty e : TypeId) (i : TypeInfo) (z : Value) (size bytes : Nat) (ht : P.underlying t = some (.slice e)) (hi : P.info? e = some i) (hz : i.zero = some z)
    (hsize : i.size = size) (hby : i.bytes = bytes) (hzs : z.cells.size = size) (hsz : 0 < size)
    (v : Value) (n : Nat) (xs : List Value) (hown : w.ownsRow base e size v n xs)
    (a : Addr) (m c : Nat) (news : List Value) (hl : news.length = m * size) (hnews : ∀ j u, news[j]? = some u → w.cell? (a.add j) = some u) (h1 : ∀ u ∈ news, u.oneCell' = true)
    (h63 : n + m ≤ maxLen) (hbytes : (n + m) * bytes ≤ 140737488355328) (hbase : base ≤ w.heap.size) :
    ∃ v' w', (Builtin.append_ #[t, t] ty #[v, .slice (some a) m c]).run P w = .ok v' w' ∧ w'.ownsRow base e size v' (n + m) (xs ++ news) ∧ Turned (fun k => v'.ownBlock = some k) w w' ∧
      (v'.ownBlock = v.ownBlock ∨ v'.ownBlock = some w.heap.size) ∧
      (∀ base' u n' xs', w.ownsRow base' e size u n' xs' → (∀ k, u.ownBlock = some k → v.ownBlock = some k → n' ≤ n) → w'.ownsRow base' e size u n' xs') := by
  obtain ⟨v', w', hr, h2, h3, h4, h5⟩ := run_append_own_at (P := P) w base t ty e i z size bytes ht hi hz hsize hby hzs hsz v n xs hown a m c news hl hnews h1 h63 hbytes hbase
  have hT : Turned (fun k => v'.ownBlock = some k) w w' := by
    refine ⟨h3.os, h3.tape, h3.output, h3.size, fun k hk hv => ?_⟩
    by_cases hvk : v.ownBlock = some k
    · have hn : v'.ownBlock = some w.heap.size := by
        rcases h5 with h5 | h5
        · exact absurd (h5.trans hvk) hv
        · exact h5
      rcases hown.2 with ⟨rfl, _⟩ | ⟨g, cap, cur, rfl, hbg, hg, hnc, hcm, hcs, htake⟩
      · cases hvk
      · by_cases hroom : n + m ≤ cap
        · subst hsize
          have hfit : n * i.size + news.length ≤ cur.size := by rw [hl, hcs, ← Nat.add_mul]; exact Nat.mul_le_mul_right _ hroom
          have hr2 := run_append_room (P := P) w t ty e i ht hi g n cap cur hg a m c news hl hnews h1 hroom hfit
          rw [hr] at hr2
          injection hr2 with e1 e2
          rw [e1] at hv
          exact absurd hvk hv
        · subst hsize
          subst hby
          have hsmall : n + m ≤ 9223372036854775807 := by simp only [maxLen] at h63; omega
          have holds : ∀ j u, xs[j]? = some u → w.cell? ((⟨g, 0, none⟩ : Addr).add j) = some u := hown.cells (g := g) rfl
          have hr2 := run_append_grow (P := P) w t ty e i z ht hi hz ⟨g, 0, none⟩ n cap xs hown.1 holds a m c news hl hnews (by omega) (by omega) (growslice_fits (by omega) hbytes)
          rw [hr] at hr2
          injection hr2 with e1 e2
          rw [e2]
          exact heap_alloc_old w.drew _ k hk
    · exact h3.block k hk fun e => hvk e.symm
  refine ⟨v', w', hr, h2, hT, h5, fun base' u n' xs' hu hle => ?_⟩
  rcases hu.2 with ⟨rfl, rfl⟩ | ⟨g, cap', cur', rfl, hbg', hg', hnc', hcm', hcs', htake'⟩
  · have hx0 : xs' = [] := List.eq_nil_of_length_eq_zero (by simpa using hu.1)
    subst hx0
    exact World.ownsRow_nil _ _ _ _
  · by_cases hsame : v'.ownBlock = some g
    · have hgl : g < w.heap.size := (Array.getElem?_eq_some_iff.1 hg').1
      have hvg : v.ownBlock = some g := by
        rcases h5 with h5 | h5
        · exact h5.symm.trans hsame
        · rw [h5] at hsame
          injection hsame with hsame
          omega
      have hle' := hle g rfl hvg
      rcases hown.2 with ⟨rfl, _⟩ | ⟨g0, cap, cur, rfl, hbg, hg, hnc, hcm, hcs, htake⟩
      · cases hvg
      · obtain rfl : g0 = g := by simpa [Value.ownBlock] using hvg
        rw [hg] at hg'
        injection hg' with hg'
        injection hg' with hcc _ _
        subst hcc
        by_cases hroom : n + m ≤ cap
        · subst hsize
          have hfit : n * i.size + news.length ≤ cur.size := by rw [hl, hcs, ← Nat.add_mul]; exact Nat.mul_le_mul_right _ hroom
          have hr2 := run_append_room (P := P) w t ty e i ht hi g0 n cap cur hg a m c news hl hnews h1 hroom hfit
          rw [hr] at hr2
          injection hr2 with e1 e2
          rcases h2.2 with ⟨e3, _⟩ | ⟨g2, cap2, cur2, e3, hbg2, hg2, hnc2, hcm2, hcs2, htake2⟩
          · rw [e1] at e3; cases e3
          · rw [e1] at e3
            injection e3 with e4 _ e5
            injection e4 with e4
            injection e4 with e4 _ _
            subst e4 e5
            refine ⟨hu.1, .inr ⟨g0, cap', cur2, rfl, hbg', hg2, hnc', hcm', by rw [hcs2, ← hcs, hcs'], ?_⟩⟩
            have hle2 : n' * i.size ≤ n * i.size := Nat.mul_le_mul_right _ hle'
            have hle3 : n' * i.size ≤ (n + m) * i.size := Nat.mul_le_mul_right _ (by omega)
            have e6 : (cur2.toList.take ((n + m) * i.size)).take (n' * i.size) = cur2.toList.take (n' * i.size) := by rw [List.take_take, Nat.min_eq_left hle3]
            rw [← e6, htake2, List.take_append_of_le_length (by rw [hown.1]; exact hle2), ← htake, List.take_take, Nat.min_eq_left hle2]
            exact htake'
        · subst hsize
          subst hby
          have hsmall : n + m ≤ 9223372036854775807 := by simp only [maxLen] at h63; omega
          have holds : ∀ j u, xs[j]? = some u → w.cell? ((⟨g0, 0, none⟩ : Addr).add j) = some u := hown.cells (g := g0) rfl
          have hr2 := run_append_grow (P := P) w t ty e i z ht hi hz ⟨g0, 0, none⟩ n cap xs hown.1 holds a m c news hl hnews (by omega) (by omega) (growslice_fits (by omega) hbytes)
          rw [hr] at hr2
          injection hr2 with e1 e2
          rw [e1] at hsame
          have : w.heap.size = g0 := by simpa [Value.ownBlock] using hsame
          omega
    · exact own_turned hu hT fun k hk e => by
        have : g = k := by simpa [Value.ownBlock] using hk
        exact hsame (by rw [this]; exact e)
end

end Go.Proofs.YtgbknjpjhkegdaaGreat
