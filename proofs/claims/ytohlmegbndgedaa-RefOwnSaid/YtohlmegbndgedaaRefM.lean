/-
  ref: slices.DeleteFunc at accounts; Accounts.
-/
import Derived.Test.YtohlmegbndgedaaRefL
import Derived.Lib.SliceRun
namespace Go.Proofs.Ytohlmegbndgedaa
open Go.RowKit Go.Maps Go.WideMaps Held

/-- What stays. -/
def keepL (s : ByteArray) (xs : List Acc) : List Acc := xs.filter fun x => !delB s x
theorem keep_all {s : ByteArray} {xs : List Acc} (h : ∀ j, j < xs.length → delB s (xs.getD j acc0) = false) : keepL s xs = xs := by
  rw [keepL, List.filter_eq_self]
  intro x hx
  obtain ⟨j, hj, rfl⟩ := List.getElem_of_mem hx
  have := h j hj
  rw [show xs.getD j acc0 = xs[j] by simp [List.getD, hj]] at this
  rw [this]; rfl

theorem run_clear2 (w : World) (b o n : Nat) (hn : 0 < n) (hc : ∀ j, j < n * 2 → (w.cell? ⟨b, o + j, none⟩).isSome = true) (hf : ∀ j, w.frozen? ⟨b, j, none⟩ = false) :
    ∃ zs : List Value, ∀ ty c, (Builtin.clear_ #[34] ty #[.slice (some ⟨b, o, none⟩) n c]).run Try.prog w = .ok (.tuple #[]) (w.setCells b o zs) := by
  have hv : ∀ w, (zeroValue 40).run Try.prog w = .ok (.agg #[.string ByteArray.empty, .string ByteArray.empty]) w := fun w => by kernel_rfl
  have hlen : (Builtin.zeroCells (Value.agg #[.string ByteArray.empty, .string ByteArray.empty]).cells n).toList.length = n * 2 := by simp [Builtin.zeroCells, Value.cells]
  refine ⟨(Builtin.zeroCells (Value.agg #[.string ByteArray.empty, .string ByteArray.empty]).cells n).toList, fun ty c => ?_⟩
  have hst := run_storeCells_cells (P := Try.prog) b o (Builtin.zeroCells (Value.agg #[.string ByteArray.empty, .string ByteArray.empty]).cells n).toList 0 w (by rw [hlen]; simpa using hc) (fun j _ => hf _) (by
    intro v hv'
    simp [Builtin.zeroCells, Value.cells] at hv'
    obtain ⟨i, hi, rfl⟩ := hv'
    have : i % 2 = 0 ∨ i % 2 = 1 := by omega
    rcases this with e | e <;> rw [e] <;> rfl)
  simp only [Nat.add_zero] at hst
  obtain ⟨m, rfl⟩ : ∃ m, n = m + 1 := ⟨n - 1, by omega⟩
  simp [Builtin.clear_, run_underlying Try.underlying34, hv, hst]

theorem below_setCells {B : Nat} {a : World} {b : Nat} (hb : B ≤ b) : ∀ (vs : List Value) (o : Nat) (w : World), Below B a w → Below B a (w.setCells b o vs)
  | [], _, _, h => h
  | v :: r, o, _, h => below_setCells hb r (o + 1) _ (h.setCell hb v)

/-- One is written behind those that stay. -/
theorem Row2.write {w : World} {g o i : Nat} {ys : List Acc} (h : Row2 w g o ys) (x : Acc) (hi : i < ys.length) :
    Row2 ((w.setCell ⟨g, o + i * 2, none⟩ (.string x.name)).setCell ⟨g, o + i * 2 + 1, none⟩ (.string x.party)) g o (ys.set i x) := by
  obtain ⟨h1, h2, h3⟩ := h
  refine ⟨by simpa using h1, fun j => by simpa using h2 j, fun t ht => ?_⟩
  rw [List.length_set] at ht
  by_cases e : t = i
  · subst e
    have hx : (ys.set t x).getD t acc0 = x := by simp [List.getD, hi]
    rw [hx]
    constructor
    · rw [World.cell?_setCell_other _ _ _ _ (by simp)]
      exact World.cell?_setCell_same _ _ _ (h3 t hi).1
    · have hz : (w.setCell ⟨g, o + t * 2, none⟩ (.string x.name)).cell? ⟨g, o + t * 2 + 1, none⟩ = some (.string (ys.getD t acc0).party) := (World.cell?_setCell_other _ _ _ _ (by simp)).trans (h3 t hi).2
      exact World.cell?_setCell_same _ _ _ hz
  · have hx : (ys.set i x).getD t acc0 = ys.getD t acc0 := by simp [List.getD, Ne.symm e]
    rw [hx]
    constructor
    · rw [World.cell?_setCell_other _ _ _ _ (by first | (simp; done) | (simp; omega)), World.cell?_setCell_other _ _ _ _ (by first | (simp; done) | (simp; omega))]
      exact (h3 t ht).1
    · rw [World.cell?_setCell_other _ _ _ _ (by first | (simp; done) | (simp; omega)), World.cell?_setCell_other _ _ _ _ (by first | (simp; done) | (simp; omega))]
      exact (h3 t ht).2

/-- How far the sieve is. -/
structure Sieve (s : ByteArray) (xs : List Acc) (i j : Nat) (ys : List Acc) : Prop where
  len : ys.length = xs.length
  lt : i < j
  le : j ≤ xs.length
  low : ys.take i = keepL s (xs.take j)
  high : ∀ t, j ≤ t → ys.getD t acc0 = xs.getD t acc0
theorem Sieve.skip {s : ByteArray} {xs ys : List Acc} {i j : Nat} (h : Sieve s xs i j ys) (hj : j < xs.length) (hd : delB s (xs.getD j acc0) = true) : Sieve s xs i (j + 1) ys :=
  ⟨h.len, by have := h.lt; omega, by omega, by rw [h.low, take_snocD acc0 hj, keepL, keepL, List.filter_append]; simp only [List.filter_cons, hd]; simp, fun t ht => h.high t (by omega)⟩
theorem Sieve.keep {s : ByteArray} {xs ys : List Acc} {i j : Nat} (h : Sieve s xs i j ys) (hj : j < xs.length) (hd : delB s (xs.getD j acc0) = false) : Sieve s xs (i + 1) (j + 1) (ys.set i (xs.getD j acc0)) := by
  have hl := h.len
  have hlt := h.lt
  refine ⟨by rw [List.length_set, h.len], by omega, by omega, ?_, fun t ht => ?_⟩
  · rw [take_snocD acc0 (by rw [List.length_set, hl]; omega), List.take_set_of_le (Nat.le_refl _), h.low, take_snocD acc0 hj, keepL, keepL, List.filter_append]
    have : (ys.set i (xs.getD j acc0)).getD i acc0 = xs.getD j acc0 := by simp [List.getD, show i < ys.length by omega]
    rw [this]
    simp only [List.filter_cons, hd]
    simp
  · have : (ys.set i (xs.getD j acc0)).getD t acc0 = ys.getD t acc0 := by simp [List.getD, show i ≠ t by omega]
    rw [this]; exact h.high t (by omega)
theorem Sieve.start {s : ByteArray} {xs : List Acc} {k : Nat} (hk : k < xs.length) (ht : delB s (xs.getD k acc0) = true) (hA : ∀ j, j < k → delB s (xs.getD j acc0) = false) : Sieve s xs k (k + 1) xs := by
  refine ⟨rfl, by omega, by omega, ?_, fun _ _ => rfl⟩
  rw [take_snocD acc0 hk, keepL, List.filter_append]
  have : keepL s (xs.take k) = xs.take k := keep_all (fun j hj => by
    rw [List.length_take] at hj
    have : (xs.take k).getD j acc0 = xs.getD j acc0 := by simp [List.getD, show j < k by omega]
    rw [this]; exact hA j (by omega))
  rw [keepL] at this
  rw [this]
  simp only [List.filter_cons, ht]
  simp

set_option maxRecDepth 100000 in
set_option maxHeartbeats 3200000 in
theorem delete_any (s : ByteArray) (B g o c : Nat) (xs : List Acc) (base : Nat) (w : World) (h : Row2 w g o xs) (hg : base ≤ g) (hbase : base ≤ w.heap.size) (hne : g ≠ B) (hB : B < w.heap.size) (hc : w.cell? ⟨B, 0, none⟩ = some (.string s)) (hl : xs.length ≤ 1000) (hcap : xs.length ≤ c) :
    Calls Try.prog 42 #[.slice (some ⟨g, o, none⟩) xs.length c, .func (.func 44) #[] #[.pointer (some ⟨B, 0, none⟩)]] w fun e w' => e = .returned (.slice (some ⟨g, o, none⟩) (keepL s xs).length c) ∧ AccRow w' (some ⟨g, o, none⟩) (keepL s xs) ∧ Below base w w' := by
  have HI := Lib.hid (index_any s B g o c xs w h hB hc hl)
  obtain ⟨L, hL⟩ : ∃ L, L = xs.length := ⟨_, rfl⟩
  rw [← hL] at hl hcap HI ⊢
  have HL := Lib.hid hL
  have HC := Lib.hid hc
  have HR := Lib.hid h
  have HBASE := Lib.hid hbase
  clear hL hc h
  go_enter Try.func42, Try.ntmps42
  go_wp2_with fail
  refine HI.out.mono ?_
  rintro e w1 ⟨r, rfl, hf, hb1⟩
  rcases hf with ⟨rfl, hA⟩ | ⟨k, rfl, hk, hd, hA⟩
  · have HK := Lib.hid (keep_all hA)
    have HB1 := Lib.hid (hb1.mono hbase)
    have HROW := Lib.hid (HR.out.below hb1)
    clear hA hb1
    go_wp2
    go_ret
    exact ⟨by rw [HK.out, ← HL.out]; rfl, by rw [HK.out]; exact .inr ⟨g, o, rfl, HROW.out.1, HROW.out.2.2⟩, HB1.out⟩
  · have hkl : k < L := by rw [HL.out]; exact hk
    have hk1 : ((k : Int) == -1) = false := beq_eq_false_iff_ne.2 (by omega)
    have HST := Lib.hid (Sieve.start hk hd hA)
    have HROW := Lib.hid (HR.out.below hb1)
    have HB1 := Lib.hid (hb1.mono hbase)
    have HC1 := Lib.hid ((hb1.cell (p := ⟨B, 0, none⟩) hB).trans HC.out)
    have HBL := Lib.hid (show B < w1.heap.size by have := hb1.size; omega)
    clear hk hd hA hb1
    go_wp2_with fail
    go_loopw [5, 6, 7] (fun s5 s6 _ wr => ∃ (i j : Nat) (ys : List Acc), s5 = .int .i64 i ∧ s6 = .int .i64 j ∧ i < j ∧ j ≤ L ∧ Hid (Sieve s xs i j ys ∧ Row2 wr g o ys ∧ wr.cell? ⟨B, 0, none⟩ = some (.string s) ∧ B < wr.heap.size) ∧ Below base w wr) (fun _ s6 _ _ => (L - RowKit.intOf s6).toNat)
    case atStart => exact ⟨k, k + 1, xs, rfl, by go_num, by omega, by omega, Lib.hid ⟨HST.out, HROW.out, HC1.out, HBL.out⟩, HB1.out⟩
    case round =>
      obtain ⟨i, j, ys, rfl, rfl, hij, hjL, HK, hbw⟩ := hrel
      have HBW := Lib.hid hbw
      by_cases hlt : j < L
      · have hltz : (j : Int) < (L : Int) := by omega
        have h2 : j < xs.length := by rw [← HL.out]; exact hlt
        have h2y : j < ys.length := by rw [HK.out.1.len]; exact h2
        obtain ⟨x0, x1⟩ := HK.out.2.1.2.2 j h2y
        rw [HK.out.1.high j (Nat.le_refl _)] at x0 x1
        obtain ⟨x, hx⟩ : ∃ x, x = xs.getD j acc0 := ⟨_, rfl⟩
        rw [← hx] at x0 x1
        have HX := Lib.hid hx
        have hob := Below.alloc (Below.refl wr.heap.size wr) (Nat.le_refl _) (.cells #[.string x.name, .string x.party] 40)
        have hcall := del_any s x B (wr.alloc (.cells #[.string x.name, .string x.party] 40)) (by simp; have := HK.out.2.2.2; omega) ((hob.cell (p := ⟨B, 0, none⟩) HK.out.2.2.2).trans HK.out.2.2.1)
        have HOB := Lib.hid hob
        clear hx h2 h2y hbw hob
        cases hq : delB s x with
        | true =>
          rw [hq] at hcall
          have HQ := Lib.hid hq
          clear hq
          go_wp2_with fail
          refine hcall.mono ?_
          rintro e w' ⟨rfl, hb'⟩
          have HB2 := Lib.hid (HOB.out.trans (hb'.mono (by simp)))
          clear hb'
          go_wp2
          go_roundw
          case rel => exact ⟨i, j + 1, ys, rfl, by go_num, by omega, by omega, Lib.hid ⟨HK.out.1.skip (by rw [← HL.out]; exact hlt) (by rw [← HX.out]; exact HQ.out), HK.out.2.1.below HB2.out, (HB2.out.cell (p := ⟨B, 0, none⟩) HK.out.2.2.2).trans HK.out.2.2.1, Nat.lt_of_lt_of_le HK.out.2.2.2 HB2.out.size⟩, HBW.out.trans (HB2.out.mono (Nat.le_trans HBASE.out HBW.out.size))⟩
          case measure => simp [RowKit.intOf]; omega
        | false =>
          rw [hq] at hcall
          have HQ := Lib.hid hq
          clear hq
          go_wp2_with fail
          refine hcall.mono ?_
          rintro e w' ⟨rfl, hb'⟩
          have HB2 := Lib.hid (HOB.out.trans (hb'.mono (by simp)))
          have y0 : w'.cell? ⟨wr.heap.size, 0, none⟩ = some (.string x.name) := by rw [hb'.cell (p := ⟨wr.heap.size, 0, none⟩) (by simp)]; simp
          have y1 : w'.cell? ⟨wr.heap.size, 1, none⟩ = some (.string x.party) := by rw [hb'.cell (p := ⟨wr.heap.size, 1, none⟩) (by simp)]; simp
          have hrow := HK.out.2.1.below HB2.out
          have hiy : i < ys.length := by rw [HK.out.1.len, ← HL.out]; omega
          obtain ⟨z0, z1⟩ := hrow.2.2 i hiy
          have f0 := hrow.2.1 (o + i * 2)
          have f1 := hrow.2.1 (o + i * 2 + 1)
          have HROW2 := Lib.hid (hrow.write x hiy)
          have HKEEP := Lib.hid (HK.out.1.keep (by rw [← HL.out]; exact hlt) (by rw [← HX.out]; exact HQ.out))
          rw [← HX.out] at HKEEP
          have HB3 := Lib.hid (((HBW.out.trans (HB2.out.mono (Nat.le_trans HBASE.out HBW.out.size))).setCell (p := ⟨g, o + i * 2, none⟩) hg (.string x.name)).setCell (p := ⟨g, o + i * 2 + 1, none⟩) hg (.string x.party))
          have HCB := Lib.hid (show ((w'.setCell ⟨g, o + i * 2, none⟩ (.string x.name)).setCell ⟨g, o + i * 2 + 1, none⟩ (.string x.party)).cell? ⟨B, 0, none⟩ = some (.string s) by
            rw [World.cell?_setCell_other _ _ _ _ (by first | (simp; done) | (simp; omega)), World.cell?_setCell_other _ _ _ _ (by first | (simp; done) | (simp; omega))]
            exact (HB2.out.cell (p := ⟨B, 0, none⟩) HK.out.2.2.2).trans HK.out.2.2.1)
          have HBB := Lib.hid (show B < ((w'.setCell ⟨g, o + i * 2, none⟩ (.string x.name)).setCell ⟨g, o + i * 2 + 1, none⟩ (.string x.party)).heap.size by simpa using Nat.lt_of_lt_of_le HK.out.2.2.2 HB2.out.size)
          clear hb' hrow hiy x0 x1
          have hiL : (i : Int) < (L : Int) := by omega
          go_wp2
          go_roundw
          case rel => exact ⟨i + 1, j + 1, ys.set i x, by go_num, by go_num, by omega, by omega, Lib.hid ⟨HKEEP.out, HROW2.out, HCB.out, HBB.out⟩, HB3.out⟩
          case measure => simp [RowKit.intOf]; omega
      · obtain rfl : j = L := by omega
        have hltz : ¬ (j : Int) < (j : Int) := by omega
        have hiL : i ≤ j := by omega
        have HLOW := Lib.hid (show ys.take i = keepL s xs by rw [HK.out.1.low, List.take_of_length_le (by rw [← HL.out]; exact Nat.le_refl _)])
        have HLEN := Lib.hid (show (keepL s xs).length = i by rw [← HLOW.out, List.length_take, HK.out.1.len, ← HL.out]; omega)
        obtain ⟨zs, hcl⟩ := run_clear2 wr g (o + i * 2) (j - i) (by omega) (fun t ht => by
          have hy : i + t / 2 < ys.length := by rw [HK.out.1.len, ← HL.out]; omega
          have hh := HK.out.2.1.2.2 (i + t / 2) hy
          have h2 : t % 2 = 0 ∨ t % 2 = 1 := by omega
          rcases h2 with e | e
          · rw [show o + i * 2 + t = o + (i + t / 2) * 2 by omega, hh.1]; rfl
          · rw [show o + i * 2 + t = o + (i + t / 2) * 2 + 1 by omega, hh.2]; rfl) HK.out.2.1.2.1
        have HFIN := Lib.hid (show AccRow (wr.setCells g (o + i * 2) zs) (some ⟨g, o, none⟩) (keepL s xs) ∧ Below base w (wr.setCells g (o + i * 2) zs) from
          ⟨.inr ⟨g, o, rfl, Nat.lt_of_lt_of_le HK.out.2.1.1 (below_setCells (Nat.le_refl g) zs _ wr (Below.refl g wr)).size, fun t ht => by
            rw [HLEN.out] at ht
            have hy : t < ys.length := by rw [HK.out.1.len, ← HL.out]; omega
            have hh := HK.out.2.1.2.2 t hy
            have hg2 : (keepL s xs).getD t acc0 = ys.getD t acc0 := by rw [← HLOW.out]; simp [List.getD, ht]
            rw [hg2]
            exact ⟨(World.cell?_setCells_out g zs _ wr ⟨g, o + t * 2, none⟩ (fun _ _ => .inl (by show o + t * 2 < o + i * 2; omega))).trans hh.1, (World.cell?_setCells_out g zs _ wr ⟨g, o + t * 2 + 1, none⟩ (fun _ _ => .inl (by show o + t * 2 + 1 < o + i * 2; omega))).trans hh.2⟩⟩,
           below_setCells hg zs _ wr HBW.out⟩)
        clear hbw
        go_wp2
        go_ret
        exact ⟨by rw [HLEN.out]; rfl, HFIN.out⟩

end Go.Proofs.Ytohlmegbndgedaa
