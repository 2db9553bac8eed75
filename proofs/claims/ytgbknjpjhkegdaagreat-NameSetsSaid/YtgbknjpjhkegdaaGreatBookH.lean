/-
  The Book: lists that are marked, of any kind.
-/
import Derived.Test.YtgbknjpjhkegdaaGreatBookG
namespace Go.Proofs.YtgbknjpjhkegdaaGreat
open Go.RowKit
set_option linter.unusedVariables false

/-- The same heads, the same lengths. -/
def SameHeads {α : Type} (M L : List (Value × List α)) : Prop := M.map (fun x => (x.1, x.2.length)) = L.map (fun x => (x.1, x.2.length))
theorem SameHeads.len {α : Type} {M L : List (Value × List α)} (h : SameHeads M L) : M.length = L.length := by have := congrArg List.length h; simpa using this
theorem SameHeads.at {α : Type} {M L : List (Value × List α)} (h : SameHeads M L) {i : Nat} {x : Value × List α} (hx : M[i]? = some x) : ∃ y, L[i]? = some y ∧ y.1 = x.1 ∧ y.2.length = x.2.length := by
  have h1 : (M.map (fun x => (x.1, x.2.length)))[i]? = (L.map (fun x => (x.1, x.2.length)))[i]? := by rw [h]
  rw [List.getElem?_map, List.getElem?_map, hx] at h1
  cases hy : L[i]? with
  | none => rw [hy] at h1; cases h1
  | some y =>
    rw [hy] at h1
    injection h1 with h1
    injection h1 with h1 h2
    exact ⟨y, rfl, h1.symm, h2.symm⟩
theorem SameHeads.set {α : Type} {M L : List (Value × List α)} (h : SameHeads M L) {i : Nat} {x : Value × List α} (hx : M[i]? = some x) {ss : List α} (hl : ss.length = x.2.length) : SameHeads (M.set i (x.1, ss)) L := by
  obtain ⟨hi, hxi⟩ := List.getElem?_eq_some_iff.1 hx
  unfold SameHeads
  rw [← show M.map (fun x => (x.1, x.2.length)) = L.map (fun x => (x.1, x.2.length)) from h]
  apply List.ext_getElem?
  intro j
  rw [List.getElem?_map, List.getElem?_map, List.getElem?_set]
  by_cases hij : i = j
  · subst hij
    rw [if_pos rfl, if_pos hi, hx]
    simp [hl]
  · rw [if_neg hij]
theorem SameHeads.mem {α : Type} {M L : List (Value × List α)} (h : SameHeads M L) {x : Value × List α} (hx : x ∈ M) : ∃ y ∈ L, y.1 = x.1 ∧ y.2.length = x.2.length := by
  obtain ⟨i, hi, hxi⟩ := List.mem_iff_getElem.1 hx
  obtain ⟨y, hy, h1, h2⟩ := h.at (i := i) (x := x) (by rw [List.getElem?_eq_getElem hi, hxi])
  obtain ⟨hj, hyj⟩ := List.getElem?_eq_some_iff.1 hy
  exact ⟨y, hyj ▸ List.getElem_mem hj, h1, h2⟩

/-- The blocks of lists. -/
def BlocksOf {α : Type} (L : List (Value × List α)) (k : Nat) : Prop := ∃ x ∈ L, x.1.ownBlock = some k

/-- The marks of list i, from f on, n of them: mk i f, mk i (f + 1) .. -/
def marksG {α : Type} (mk : Nat → Nat → α) (i f n : Nat) : List α := (List.range n).map fun j => mk i (f + j)
theorem marksG_len {α : Type} (mk : Nat → Nat → α) (i f n : Nat) : (marksG mk i f n).length = n := by rw [marksG, List.length_map, List.length_range]
theorem marksG_get {α : Type} (mk : Nat → Nat → α) {i n k : Nat} (h : k < n) : (marksG mk i 0 n)[k]? = some (mk i k) := by
  simp [marksG, h]
theorem marksG_app {α : Type} (mk : Nat → Nat → α) (i n m : Nat) : marksG mk i 0 n ++ marksG mk i n m = marksG mk i 0 (n + m) := by
  unfold marksG
  rw [List.range_add, List.map_append, List.map_map]
  congr 1
  exact List.map_congr_left fun j _ => by simp

/-- The lists before number i hold their marks. -/
def MarkedBelow {α : Type} (mk : Nat → Nat → α) (M : List (Value × List α)) (i : Nat) : Prop := ∀ j x, j < i → M[j]? = some x → x.2 = marksG mk j 0 x.2.length

/-- Since w0 the lists before number j have been marked. -/
structure PutAt {α : Type} (mk : Nat → Nat → α) (cs : α → List Value) (te size th base bk : Nat) (w0 : World) (tv : Value) (L : List (Value × List α)) (w : World) (M : List (Value × List α)) (j : Nat) : Prop where
  sh : SameHeads M L
  mb : MarkedBelow mk M j
  ls : Lists cs te size th base bk w tv M
  tn : Turned (BlocksOf L) w0 w

/-- List number j, v, of n elements, is being marked, from the marks m that lie from block H on: k are. -/
structure PutIn {α : Type} (mk : Nat → Nat → α) (cs : α → List Value) (te size th base bk : Nat) (w0 : World) (tv : Value) (L : List (Value × List α)) (w : World) (M : List (Value × List α)) (j : Nat) (v : Value) (n k H : Nat) (m : Value) : Prop where
  pa : PutAt mk cs te size th base bk w0 tv L w M j
  here : ∃ ss, M[j]? = some (v, ss) ∧ ss.length = n ∧ ss.take k = (marksG mk j 0 n).take k
  ow : w.ownsRow H te size m n ((marksG mk j 0 n).flatMap cs)
  lt : ∀ x ∈ M, ∀ b, x.1.ownBlock = some b → b < H

section
variable {α : Type} {mk : Nat → Nat → α} {cs : α → List Value} {te size th base bk : Nat} {w0 w w' : World} {tv : Value} {L M : List (Value × List α)} {j n k H : Nat} {v m : Value}

theorem PutAt.start (h : Lists cs te size th base bk w0 tv L) : PutAt mk cs te size th base bk w0 tv L w0 L 0 := ⟨rfl, fun j x hj => absurd hj (Nat.not_lt_zero _), h, Turned.refl _ _⟩
theorem PutAt.below (h : PutAt mk cs te size th base bk w0 tv L w M j) (hb : Below w.heap.size w w') : PutAt mk cs te size th base bk w0 tv L w' M j := ⟨h.sh, h.mb, h.ls.below hb, h.tn.trans (Turned.of_below hb _)⟩
theorem PutIn.below (h : PutIn mk cs te size th base bk w0 tv L w M j v n k H m) (hb : Below w.heap.size w w') : PutIn mk cs te size th base bk w0 tv L w' M j v n k H m :=
  ⟨h.pa.below hb, h.here, own_turned h.ow (Turned.of_below hb fun _ => False) (fun _ _ e => e), h.lt⟩
theorem PutAt.nobk (h : PutAt mk cs te size th base bk w0 tv L w M j) : ¬ BlocksOf L bk := fun ⟨x, hx, e⟩ => by
  have hm : x.1 ∈ L.map (·.1) := List.mem_map.2 ⟨x, hx, rfl⟩
  have e2 : L.map (·.1) = M.map (·.1) := by
    have := congrArg (List.map (·.1)) h.sh
    simpa [List.map_map, Function.comp_def] using this.symm
  rw [e2] at hm
  exact h.ls.far _ hm e

/-- Behind the marks' making. -/
theorem PutAt.enter (h : PutAt mk cs te size th base bk w0 tv L w M j) {ss : List α} (hx : M[j]? = some (v, ss)) (hb : Below w.heap.size w w') (ho : w'.ownsRow w.heap.size te size m ss.length ((marksG mk j 0 ss.length).flatMap cs)) :
    PutIn mk cs te size th base bk w0 tv L w' M j v ss.length 0 w.heap.size m :=
  ⟨h.below hb, ⟨ss, hx, rfl, rfl⟩, ho, fun x hx b hb => ((h.ls.each x hx).lt b hb).2⟩

/-- One element is marked. -/
theorem PutIn.turn (h : PutIn mk cs te size th base bk w0 tv L w M j v n k H m) (he : te ≠ th) (hk : k < n) {ss : List α} (hx : M[j]? = some (v, ss)) (hw : Turned (fun b => v.ownBlock = some b) w w') (hrow : w'.ownsRow base te size v n ((ss.set k (mk j k)).flatMap cs)) :
    PutIn mk cs te size th base bk w0 tv L w' (M.set j (v, ss.set k (mk j k))) j v n (k + 1) H m := by
  obtain ⟨ss', hx', hl, htk⟩ := h.here
  rw [hx] at hx'
  injection hx' with hx'
  injection hx' with _ hx'
  subst hx'
  obtain ⟨hj, hxj⟩ := List.getElem?_eq_some_iff.1 hx
  have hm : (v, ss) ∈ M := hxj ▸ List.getElem_mem hj
  refine ⟨⟨h.pa.sh.set hx (by simp), fun i x hi hx2 => ?_, h.pa.ls.turn1 he (x := (v, ss)) hx hw (by rw [List.length_set, hl]; exact hrow), h.pa.tn.trans (hw.mono fun b _ hb => ?_)⟩, ⟨ss.set k (mk j k), ?_, by simp [hl], ?_⟩, own_turned h.ow hw fun b hb e => ?_, fun x hx2 b hb => ?_⟩
  · rw [List.getElem?_set, if_neg (by omega)] at hx2
    exact h.pa.mb i x hi hx2
  · obtain ⟨y, hy, h1, _⟩ := h.pa.sh.mem hm
    exact ⟨y, hy, by rw [h1]; exact hb⟩
  · rw [List.getElem?_set, if_pos rfl, if_pos hj]
  · rw [List.take_add_one, List.take_add_one, List.take_set_of_le (Nat.le_refl _), htk, marksG_get mk hk, List.getElem?_set, if_pos rfl, if_pos (by omega)]
  · have := h.lt _ hm b e
    have := (h.ow.lt b hb).1
    omega
  · obtain ⟨i, hi, hxi⟩ := List.mem_iff_getElem.1 hx2
    rw [List.length_set] at hi
    rw [List.getElem_set] at hxi
    by_cases hij : j = i
    · rw [if_pos hij] at hxi
      subst hxi
      exact h.lt _ hm b hb
    · rw [if_neg hij] at hxi
      exact h.lt x (hxi ▸ List.getElem_mem hi) b hb

/-- The list holds its marks. -/
theorem PutIn.done (h : PutIn mk cs te size th base bk w0 tv L w M j v n k H m) (hk : n ≤ k) : PutAt mk cs te size th base bk w0 tv L w M (j + 1) := by
  obtain ⟨ss, hx, hl, htk⟩ := h.here
  refine ⟨h.pa.sh, fun i x hi hxi => ?_, h.pa.ls, h.pa.tn⟩
  rcases Nat.lt_or_ge i j with h1 | h1
  · exact h.pa.mb i x h1 hxi
  · obtain rfl : i = j := by omega
    rw [hx] at hxi
    injection hxi with hxi
    subst hxi
    rw [List.take_of_length_le (by omega), List.take_of_length_le (by rw [marksG_len]; omega)] at htk
    show ss = marksG mk i 0 ss.length
    rw [hl]
    exact htk
end
end Go.Proofs.YtgbknjpjhkegdaaGreat
