/-
  ref: Accounts; name.Compare; what the laws of parties and accounts say in plain words.
-/
import Derived.Test.YtohlmegbndgedaaRefM
import Derived.Sort.Walk0
namespace Go.Proofs.Ytohlmegbndgedaa
open Go.RowKit Go.Maps Go.WideMaps Held

def cmpS (a b : ByteArray) : Int := if a.data.toList < b.data.toList then -1 else if b.data.toList < a.data.toList then 1 else 0

theorem cmp_lt {a b : ByteArray} (h : Op.bytesLess a.toList b.toList = true) : cmpS a b = -1 := by
  rw [bytesLess_eq, ByteArray.toList_eq, ByteArray.toList_eq, decide_eq_true_eq] at h
  unfold cmpS; rw [if_pos h]
theorem cmp_gt {a b : ByteArray} (h : Op.bytesLess a.toList b.toList = false) (h2 : (!a.toList == b.toList) = true) : cmpS a b = 1 := by
  rw [bytesLess_eq, ByteArray.toList_eq, ByteArray.toList_eq, decide_eq_false_iff_not] at h
  rw [ByteArray.toList_eq, ByteArray.toList_eq] at h2
  have hne : a.data.toList ≠ b.data.toList := by simpa using h2
  unfold cmpS
  rw [if_neg h, if_pos]
  have h3 : b.data.toList ≤ a.data.toList := List.not_lt.1 h
  exact Decidable.byContradiction fun h4 => hne (List.le_antisymm (List.not_lt.1 h4) h3)
theorem cmp_eq {a b : ByteArray} (h2 : (!a.toList == b.toList) = false) : cmpS a b = 0 := by
  rw [ByteArray.toList_eq, ByteArray.toList_eq] at h2
  have he : a.data.toList = b.data.toList := by simpa using h2
  unfold cmpS
  rw [he, if_neg (List.lt_irrefl _), if_neg (List.lt_irrefl _)]

theorem isnan_any (a : ByteArray) (w : World) : Calls Try.prog 57 #[.string a] w fun e w' => e = .returned (.bool false) ∧ w = w' := by
  go_enter Try.func57, Try.ntmps57
  go_wp2
  go_ret
  exact ⟨rfl, rfl⟩

theorem compare_any (a b : ByteArray) (w : World) : Calls Try.prog 45 #[.string a, .string b] w fun e w' => e = .returned (.int .i64 (cmpS a b)) ∧ w = w' := by
  obtain ⟨r, hr⟩ : ∃ r, r = cmpS a b := ⟨_, rfl⟩
  rw [← hr]
  have HR := Lib.hid hr
  clear hr
  go_enter Try.func45, Try.ntmps45
  go_wp2_with (go_at_call 57; refine (isnan_any _ _).mono ?_; rintro e w' ⟨rfl, rfl⟩)
  · have h : Op.bytesLess a.toList b.toList = true := by assumption
    go_ret
    exact ⟨by rw [HR.out, cmp_lt h]; rfl, rfl⟩
  · have h : Op.bytesLess a.toList b.toList = false := by assumption
    have h2 : (!a.toList == b.toList) = true := by assumption
    go_ret
    exact ⟨by rw [HR.out, cmp_gt h h2]; rfl, rfl⟩
  · have h2 : (!a.toList == b.toList) = false := by assumption
    go_ret
    exact ⟨by rw [HR.out, cmp_eq h2]; rfl, rfl⟩

theorem cmp_any (a b : ByteArray) (w : World) : Calls Try.prog 17 #[.string a, .string b] w fun e w' => e = .returned (.int .i64 (cmpS a b)) ∧ w = w' := by
  go_enter Try.func17, Try.ntmps17
  go_wp2_with (go_at_call 45; refine (compare_any _ _ _).mono ?_; rintro e w' ⟨rfl, rfl⟩)
  go_ret
  exact ⟨rfl, rfl⟩


theorem cmp_q (a b : ByteArray) (w : World) : Calls Try.prog 17 #[.string a, .string b] w fun e w' => e = .returned (.int .i64 (cmpS a b)) ∧ w' = w := (cmp_any a b w).mono fun _ _ h => ⟨h.1, h.2.symm⟩
theorem valid_q (s : ByteArray) (hs : s.size ≤ 9223372036854775807) (w : World) : Calls Try.prog 16 #[.string s] w fun e w' => e = .returned (.bool (validB s)) ∧ w' = w := (valid_any s w hs).mono fun _ _ h => ⟨h.1, h.2.symm⟩

set_option maxRecDepth 100000 in
set_option maxHeartbeats 1600000 in
theorem acc_any {w0 w : World} {R g : Nat} {d : Dat} (s : ByteArray) (h : RefIn w0 w R g d) (hks : ∀ s, hasV d.a s = true → s.size ≤ maxLen) (hne : rowsQ d.a ≠ []) (hlen : (rowsQ d.a).length ≤ 1000) :
    Calls Try.prog 15 #[.pointer (some ⟨R, 0, none⟩), .string s] w fun e w' => ∃ a c, e = .returned (.slice a (keepL s (rowsQ d.a)).length c) ∧ AccRow w' a (keepL s (rowsQ d.a)) ∧ Below w.heap.size w w' := by
  obtain ⟨p, q, r, h1, _⟩ := h.ex
  have hob := Below.alloc (Below.refl w.heap.size w) (Nat.le_refl _) (.cells #[.string s] 9)
  have h2 := h1.below hob
  have HS := Lib.hid (sortedQ_any q d.a _ h2.ma h2.ta h2.sz.2.1 hks)
  have HOB := Lib.hid hob
  have c2 := h2.c2
  have HNE := Lib.hid hne
  have HLEN := Lib.hid hlen
  obtain ⟨xs, hxs⟩ : ∃ xs, xs = rowsQ d.a := ⟨_, rfl⟩
  rw [← hxs] at HS HNE HLEN ⊢
  clear h h1 h2 hks hob hne hlen hxs
  go_enter Try.func15, Try.ntmps15
  go_wp2_with fail
  refine HS.out.mono ?_
  rintro e w1 ⟨v, rfl, ho, hb1⟩
  obtain ⟨a, c, rfl, hrow, hcap⟩ := ho.row
  obtain ⟨gb, rfl, hgb, hr2⟩ : ∃ g', a = some ⟨g', 0, none⟩ ∧ (w.alloc (.cells #[.string s] 9)).heap.size ≤ g' ∧ Row2 w1 g' 0 xs := by
    rcases hrow with h | h
    · exact absurd h HNE.out
    · exact h
  have hB : w.heap.size < w1.heap.size := by have := hb1.size; simp at this; omega
  have hc1 : w1.cell? ⟨w.heap.size, 0, none⟩ = some (.string s) := (hb1.cell (p := ⟨w.heap.size, 0, none⟩) (by simp)).trans (by simp)
  have hgs : w.heap.size < gb := by simp at hgb; omega
  have HD := Lib.hid (delete_any s w.heap.size gb 0 c xs w.heap.size w1 hr2 (by omega) (by omega) (by omega) hB hc1 HLEN.out hcap)
  have HB1 := Lib.hid (HOB.out.trans (hb1.mono (by simp)))
  clear ho hb1 hrow hcap hr2 hgb hc1
  go_wp2_with fail
  refine HD.out.mono ?_
  rintro e w2 ⟨rfl, hrow, hb2⟩
  go_wp2
  go_ret
  exact ⟨_, _, rfl, hrow, HB1.out.trans hb2⟩

/-! What holds of the parties and of the accounts. -/
theorem addL_one' {α : Type} (nm : α → ByteArray) (cl : α → Value) (ah bh : α → Int) (most : Nat) (D : DH) (x : α) : addL nm cl ah bh most D D [x] = if stepE (validB (nm x)) (ah x) (hasV D (nm x)) (bh x) (Maps.size D) most = 0 then (putV D (nm x) (cl x), 0) else (D, stepE (validB (nm x)) (ah x) (hasV D (nm x)) (bh x) (Maps.size D) most) := by
  rw [addL]; split <;> rfl

structure PInv (D : DH) : Prop where
  keys : TextKeys D
  ty : Typed Pty.val D
  sz : Maps.size D ≤ 20
  pos : 1 ≤ Maps.size D
  nm : ∀ s, hasV D s = true → (getP D s).name = s ∧ 1 ≤ s.size ∧ s.size ≤ 12
structure AInv (D A : DH) : Prop where
  keys : TextKeys A
  ty : Typed Acc.val A
  sz : Maps.size A ≤ 20
  pos : 1 ≤ Maps.size A
  nm : ∀ s, hasV A s = true → (getQ A s).name = s ∧ s.size ≤ 12 ∧ (validB s = true ∨ s = bank) ∧ hasV D (getQ A s).party = true

theorem valid_pos {s : ByteArray} (h : validB s = true) : 1 ≤ s.size := by
  unfold validB at h
  simp only [Bool.and_eq_true, decide_eq_true_eq] at h
  exact h.1.1

theorem getP_put {D : DH} (h : TextKeys D) (s t : ByteArray) (x : Pty) : getP (putV D s x.val) t = if t = s then x else getP D t := by
  split
  · next e => subst e; rw [getP, getV_put_same h.isMap]; rfl
  · next e => rw [getP, getV_put_other e]; rfl
theorem getQ_put {D : DH} (h : TextKeys D) (s t : ByteArray) (x : Acc) : getQ (putV D s x.val) t = if t = s then x else getQ D t := by
  split
  · next e => subst e; rw [getQ, getV_put_same h.isMap]; rfl
  · next e => rw [getQ, getV_put_other e]; rfl

theorem PInv.start : PInv dat0.p := by
  refine ⟨textKeys_none.put _ _, (typed_none _).put textKeys_none _ _, by decide, by decide, fun s hs => ?_⟩
  rcases (hasV_put textKeys_none.isMap _ _ _).1 hs with rfl | hs
  · exact ⟨by kernel_rfl, by decide, by decide⟩
  · rw [hasV_none] at hs; cases hs
theorem PInv.step {D : DH} (h : PInv D) (x : Pty) : PInv (addL Pty.name Pty.val aheadP behindP 20 D D [x]).1 := by
  rw [addL_one']
  split
  · next e =>
    have hz := step_zero e
    refine ⟨h.keys.put _ _, h.ty.put h.keys _ _, by show Maps.size (putV D x.name x.val) ≤ 20; rw [size_putV h.keys, hz.2.2.1]; have := hz.2.2.2.2; simp; omega, by show 1 ≤ Maps.size (putV D x.name x.val); rw [size_putV h.keys, hz.2.2.1]; simp, fun s hs => ?_⟩
    show (getP (putV D x.name x.val) s).name = s ∧ _
    rw [getP_put h.keys]
    rcases (hasV_put h.keys.isMap _ _ _).1 hs with rfl | hs
    · rw [if_pos rfl]; exact ⟨rfl, valid_pos hz.1, valid_len hz.1⟩
    · split
      · next e => subst e; exact ⟨rfl, valid_pos hz.1, valid_len hz.1⟩
      · exact h.nm s hs
  · exact h
theorem AInv.start {D : DH} (hb : hasV D bank = true) : AInv D dat0.a := by
  refine ⟨textKeys_none.put _ _, (typed_none _).put textKeys_none _ _, by decide, by decide, fun s hs => ?_⟩
  rcases (hasV_put textKeys_none.isMap _ _ _).1 hs with rfl | hs
  · exact ⟨by kernel_rfl, by decide, .inr rfl, hb⟩
  · rw [hasV_none] at hs; cases hs
theorem AInv.step {D A : DH} (h : AInv D A) (x : Acc) : AInv D (addL Acc.name Acc.val (aheadQ D) behindQ 20 A A [x]).1 := by
  rw [addL_one']
  split
  · next e =>
    have hz := step_zero e
    have hp : hasV D x.party = true := by
      have := hz.2.1
      unfold aheadQ at this
      cases hh : hasV D x.party with
      | true => rfl
      | false => rw [hh] at this; exact absurd this (by decide)
    refine ⟨h.keys.put _ _, h.ty.put h.keys _ _, by show Maps.size (putV A x.name x.val) ≤ 20; rw [size_putV h.keys, hz.2.2.1]; have := hz.2.2.2.2; simp; omega, by show 1 ≤ Maps.size (putV A x.name x.val); rw [size_putV h.keys, hz.2.2.1]; simp, fun s hs => ?_⟩
    show (getQ (putV A x.name x.val) s).name = s ∧ _ ∧ _ ∧ hasV D (getQ (putV A x.name x.val) s).party = true
    rw [getQ_put h.keys]
    rcases (hasV_put h.keys.isMap _ _ _).1 hs with rfl | hs
    · rw [if_pos rfl]; exact ⟨rfl, valid_len hz.1, .inl hz.1, hp⟩
    · split
      · next e => subst e; exact ⟨rfl, valid_len hz.1, .inl hz.1, hp⟩
      · exact h.nm s hs
  · exact h
theorem bank_start : hasV dat0.p bank = true := by kernel_rfl
theorem bank_step {D : DH} (hk : TextKeys D) (h : hasV D bank = true) (x : Pty) : hasV (addL Pty.name Pty.val aheadP behindP 20 D D [x]).1 bank = true := by
  rw [addL_one']
  split
  · exact (hasV_put hk.isMap _ _ _).2 (.inr h)
  · exact h

/-- How many rows the first i texts keep. -/
def psum (ks : List ByteArray) (rows : List Acc) (i : Nat) : Nat := ((ks.take i).map fun s => (keepL s rows).length).sum
theorem psum_succ {ks : List ByteArray} {rows : List Acc} {i : Nat} (h : i < ks.length) : psum ks rows (i + 1) = psum ks rows i + (keepL (ks.getD i ByteArray.empty) rows).length := by
  rw [psum, psum, take_snocD ByteArray.empty h, List.map_append, List.sum_append]; simp
theorem psum_le {ks : List ByteArray} {rows : List Acc} : ∀ i, psum ks rows i ≤ i * rows.length
  | 0 => by simp [psum]
  | i + 1 => by
    have hi := psum_le (ks := ks) (rows := rows) i
    by_cases h : i < ks.length
    · rw [psum_succ h, Nat.add_mul]
      have : (keepL (ks.getD i ByteArray.empty) rows).length ≤ rows.length := List.length_filter_le _ _
      omega
    · have : psum ks rows (i + 1) = psum ks rows i := by rw [psum, psum, List.take_of_length_le (by omega), List.take_of_length_le (by omega)]
      rw [this, Nat.add_mul]; omega

theorem del_eq {s : ByteArray} (hs : 1 ≤ s.size) (x : Acc) : (!delB s x) = decide (x.party = s) := by
  have h0 : s.data.toList ≠ [] := fun e => by rw [bytes_nil e] at hs; exact absurd hs (by decide)
  by_cases h : x.party = s
  · simp [delB, h]
  · have h2 : x.party.data.toList ≠ s.data.toList := fun e => h (bytes_ext e)
    simp [delB, h, h0, h2]

theorem ind_sum (a : ByteArray) : ∀ (ks : List ByteArray), ks.Nodup → a ∈ ks → (ks.map fun s => if a = s then 1 else 0).sum = 1 ∧ True
  | [], _, h => by cases h
  | s :: r, hn, h => by
    rw [List.nodup_cons] at hn
    have zero : ∀ (l : List ByteArray), a ∉ l → (l.map fun s => if a = s then 1 else 0).sum = 0 := by
      intro l
      induction l with
      | nil => intro _; rfl
      | cons t l ih => intro hl; rw [List.mem_cons, not_or] at hl; rw [List.map_cons, List.sum_cons, if_neg hl.1, ih hl.2]
    rw [List.map_cons, List.sum_cons]
    by_cases e : a = s
    · rw [if_pos e, zero r (by rw [e]; exact hn.1)]; exact ⟨rfl, trivial⟩
    · rw [if_neg e, Nat.zero_add]
      rcases List.mem_cons.1 h with h | h
      · exact absurd h e
      · exact ind_sum a r hn.2 h

theorem keep_cons {s : ByteArray} (hs : 1 ≤ s.size) (x : Acc) (r : List Acc) : (keepL s (x :: r)).length = (if x.party = s then 1 else 0) + (keepL s r).length := by
  rw [keepL, List.filter_cons, del_eq hs]
  by_cases h : x.party = s
  · simp [h, keepL]; omega
  · simp [h, keepL]

theorem sum_all (ks : List ByteArray) (hn : ks.Nodup) (hs : ∀ s ∈ ks, 1 ≤ s.size) : ∀ (rows : List Acc), (∀ x ∈ rows, x.party ∈ ks) → (ks.map fun s => (keepL s rows).length).sum = rows.length
  | [], _ => by
    have : ∀ l : List ByteArray, (l.map fun s => (keepL s []).length).sum = 0 := by
      intro l
      induction l with
      | nil => rfl
      | cons t l ih => rw [List.map_cons, List.sum_cons, ih]; rfl
    exact this ks
  | x :: r, h => by
    have ih := sum_all ks hn hs r (fun y hy => h y (List.mem_cons_of_mem _ hy))
    have add : ∀ l : List ByteArray, (∀ s ∈ l, 1 ≤ s.size) → (l.map fun s => (keepL s (x :: r)).length).sum = (l.map fun s => if x.party = s then 1 else 0).sum + (l.map fun s => (keepL s r).length).sum := by
      intro l
      induction l with
      | nil => intro _; rfl
      | cons t l ih =>
        intro hl
        rw [List.map_cons, List.sum_cons, List.map_cons, List.sum_cons, List.map_cons, List.sum_cons, ih (fun s hs => hl s (List.mem_cons_of_mem _ hs)), keep_cons (hl t List.mem_cons_self)]
        omega
    rw [add ks hs, (ind_sum x.party ks hn (h x List.mem_cons_self)).1, ih, List.length_cons]
    omega

theorem psum_all {D A : DH} (hp : PInv D) (ha : AInv D A) : psum (keysV D) (rowsQ A) (keysV D).length = (rowsQ A).length := by
  rw [psum, List.take_length]
  have hnd : (keysV D).Nodup := by
    have := keysV_sorted hp.keys
    rw [List.Nodup]
    refine this.imp ?_
    intro a b h e
    subst e
    exact ahead_irrefl _ h
  refine sum_all _ hnd (fun s hs => ((hp.nm s ((mem_keysV hp.keys s).1 hs)).2.1)) _ (fun x hx => ?_)
  rw [rowsQ, List.mem_map] at hx
  obtain ⟨s, hs, rfl⟩ := hx
  exact (mem_keysV hp.keys _).2 (ha.nm s ((mem_keysV ha.keys s).1 hs)).2.2.2

theorem keep_none (rows : List Acc) : keepL ⟨#[]⟩ rows = rows := by
  rw [keepL, List.filter_eq_self]
  intro x _
  simp [delB]

theorem rowsP_len (D : DH) : (rowsP D).length = Maps.size D := by rw [rowsP, List.length_map, keysV_length]
theorem rowsQ_len (A : DH) : (rowsQ A).length = Maps.size A := by rw [rowsQ, List.length_map, keysV_length]

end Go.Proofs.Ytohlmegbndgedaa
