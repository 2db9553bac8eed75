/-
  ref: what turns ('Turns'); a calendar at its start; name.Valid, strings.Clone.
-/
import Derived.Test.YtohlmegbndgedaaHeld
import Derived.Test.YtohlmegbndgedaaIterP
import Derived.Maps.OwnSet
import Derived.WalkKit
import Derived.WalkSpells
import Derived.WalkLawsBesides
import Derived.IntWalk
import Derived.Lib.Hide
import Derived.Shelf.AbstractIn
import Derived.Shelf.SlMaps.Clone
import Derived.Deep.QuietTactic
import Derived.BigQuiet
import Derived.Below
namespace Go.Proofs.Ytohlmegbndgedaa
open Go.RowKit Go.Maps Go.WideMaps Held

/-- What lay in w lies in w' as it lay, but for the blocks in S. -/
structure Turns (S : Nat → Prop) (w w' : World) : Prop where
  os : w'.os = w.os
  tape : w'.tape = w.tape
  output : w'.output = w.output
  size : w.heap.size ≤ w'.heap.size
  block : ∀ k, k < w.heap.size → ¬ S k → w'.heap[k]? = w.heap[k]?

theorem Turns.below {S : Nat → Prop} {w0 w w' : World} (h : Turns S w w') (hb : Below w0.heap.size w0 w) (hS : ∀ k, k < w0.heap.size → ¬ S k) : Below w0.heap.size w0 w' :=
  ⟨h.os.trans hb.os, h.tape.trans hb.tape, h.output.trans hb.output, Nat.le_trans hb.size h.size, fun k hk => (h.block k (Nat.lt_of_lt_of_le hk hb.size) (hS k hk)).trans (hb.block k hk)⟩

theorem Turns.of_below {S : Nat → Prop} {w w' : World} (h : Below w.heap.size w w') : Turns S w w' := ⟨h.os, h.tape, h.output, h.size, fun k hk _ => h.block k hk⟩

theorem Turns.trans {S : Nat → Prop} {a b c : World} (h : Turns S a b) (k : Turns S b c) : Turns S a c :=
  ⟨k.os.trans h.os, k.tape.trans h.tape, k.output.trans h.output, Nat.le_trans h.size k.size, fun i hi hs => (k.block i (Nat.lt_of_lt_of_le hi h.size) hs).trans (h.block i hi hs)⟩

theorem Turns.cell {S : Nat → Prop} {w w' : World} (h : Turns S w w') {p : Addr} (hp : p.block < w.heap.size) (hs : ¬ S p.block) : w'.cell? p = w.cell? p := World.cell?_of_block (w := w) (h.block p.block hp hs)
theorem Turns.frozen {S : Nat → Prop} {w w' : World} (h : Turns S w w') {p : Addr} (hp : p.block < w.heap.size) (hs : ¬ S p.block) : w'.frozen? p = w.frozen? p := World.frozen?_of_block (w := w) (h.block p.block hp hs)

theorem clone_any (s : ByteArray) (w : World) (hs : s.size ≤ 140737488351232) : Calls Try.prog 49 #[.string s] w fun e w' => e = .returned (.string s) ∧ Below w.heap.size w w' := by
  have hc : Calls Try.prog 62 #[.string s] w fun e w' => e = .returned (.string s) ∧ Below w.heap.size w w' := Any.stringslite_Clone Try.laysM316 s w (by omega)
  have HC := Lib.hid hc
  clear hc
  go_enter Try.func49, Try.ntmps49
  go_wp2_with (go_at_call 62; refine HC.out.mono ?_; rintro e w' ⟨rfl, hb⟩)
  go_ret
  exact ⟨rfl, hb⟩

/-- A byte of a text, as a number. -/
def chr (s : ByteArray) (j : Nat) : Int := ((s.data.toList.getD j 0).toNat : Int)
def okAt (j : Nat) (c : Int) : Bool := (decide (65 ≤ c) && decide (c ≤ 90)) || (decide (j ≠ 0) && decide (48 ≤ c) && decide (c ≤ 57))
/-- Can a text be a name? -/
def validB (s : ByteArray) : Bool := decide (1 ≤ s.size) && decide (s.size ≤ 12) && (List.range s.size).all fun j => okAt j (chr s j)

theorem chr_of {s : ByteArray} {k : Nat} (h : k < s.size) : ((s[k].toNat : Nat) : Int) = chr s k := by
  unfold chr
  have h2 : k < s.data.toList.length := by simpa using h
  simp [List.getD]
  rw [Array.getElem?_eq_getElem (by simpa using h)]; rfl

set_option maxHeartbeats 400000 in
theorem valid_any (s : ByteArray) (w : World) (hs : s.size ≤ 9223372036854775807) : Calls Try.prog 16 #[.string s] w fun e w' => e = .returned (.bool (validB s)) ∧ w = w' := by
  by_cases h0 : s.size = 0
  · have hf : validB s = false := by simp [validB, h0]
    have hs0 : s = ⟨#[]⟩ := by
      apply ByteArray.ext
      exact Array.eq_empty_of_size_eq_zero h0
    rw [hf]
    subst hs0
    clear hf h0 hs
    go_enter Try.func16, Try.ntmps16
    go_wp2
    go_ret
    exact ⟨rfl, rfl⟩
  · have e1 : s.toList.isEmpty = false := by
      rw [ByteArray.toList_eq]
      cases h : s.data.toList with
      | nil => exact absurd (by have := congrArg List.length h; simpa using this) h0
      | cons => rfl
    by_cases h12 : s.size ≤ 12
    · obtain ⟨r, hr⟩ : ∃ r, r = validB s := ⟨_, rfl⟩
      have hv : validB s = (List.range s.size).all fun j => okAt j (chr s j) := by
        have : 1 ≤ s.size := by omega
        simp [validB, h12, this]
      rw [← hr] at hv ⊢
      have HV := Lib.hid hv
      clear hr hv h0
      go_enter Try.func16, Try.ntmps16
      go_wp2
      go_loop [14] (fun i => ∃ k : Nat, i = .int .i64 k ∧ k ≤ s.size ∧ Hid (∀ j, j < k → okAt j (chr s j) = true)) (fun i => (s.size - RowKit.intOf i).toNat)
      case atStart => exact ⟨0, rfl, Nat.zero_le _, Lib.hid (fun j hj => absurd hj (Nat.not_lt_zero _))⟩
      case round =>
        obtain ⟨k, rfl, hk, A⟩ := hrel
        by_cases hlt : k < s.size
        · have hltz : (k : Int) < (s.size : Int) := by omega
          have hch := chr_of hlt
          have hb := UInt8.toNat_lt s[k]
          have hno : okAt k (chr s k) = false → r = false := fun h => by
            rw [HV.out, List.all_eq_false]
            exact ⟨k, List.mem_range.2 hlt, by rw [h]; simp⟩
          have hgo : okAt k (chr s k) = true → Hid (∀ j, j < k + 1 → okAt j (chr s j) = true) := fun h => Lib.hid (fun j hj => by
            by_cases e : j = k
            · subst e; exact h
            · exact A.out j (by omega))
          have HNO := Lib.hid hno
          have HGO := Lib.hid hgo
          have HCH := Lib.hid hch
          clear hno hgo hch
          by_cases hL : 65 ≤ (s[k].toNat : Int) ∧ (s[k].toNat : Int) ≤ 90
          · have hok : okAt k (chr s k) = true := by rw [← HCH.out]; unfold okAt; simp only [decide_eq_true hL.1, decide_eq_true hL.2]; rfl
            have HO := Lib.hid (HGO.out hok)
            obtain ⟨l1, l2⟩ := hL
            clear hok
            go_wp2
            go_round
            case rel => exact ⟨k + 1, by go_num, by omega, HO.out⟩
            case measure => simp [RowKit.intOf]; omega
          · have hL2 : (s[k].toNat : Int) < 65 ∨ 90 < (s[k].toNat : Int) := by omega
            by_cases hD : 1 ≤ k ∧ 48 ≤ (s[k].toNat : Int) ∧ (s[k].toNat : Int) ≤ 57
            · have hok : okAt k (chr s k) = true := by
                have hk0 : k ≠ 0 := by omega
                rw [← HCH.out]; unfold okAt; simp only [decide_eq_true hD.2.1, decide_eq_true hD.2.2, decide_eq_true hk0, Bool.and_self, Bool.or_true]
              have HO := Lib.hid (HGO.out hok)
              obtain ⟨d0, d1, d2⟩ := hD
              have dk : ((k : Int) == 0) = false := by simp; omega
              clear hok hL hL2
              go_wp2
              go_round
              case rel => exact ⟨k + 1, by go_num, by omega, HO.out⟩
              case measure => simp [RowKit.intOf]; omega
            · have hok : okAt k (chr s k) = false := by
                rw [← HCH.out]; unfold okAt
                simp only [Bool.or_eq_false_iff, Bool.and_eq_false_iff, decide_eq_false_iff_not]
                omega
              have HR := Lib.hid (HNO.out hok)
              have hcase : (k = 0 ∧ (s[k].toNat : Int) < 65) ∨ (k = 0 ∧ 90 < (s[k].toNat : Int)) ∨ (1 ≤ k ∧ (s[k].toNat : Int) < 48) ∨ (1 ≤ k ∧ 57 < (s[k].toNat : Int) ∧ (s[k].toNat : Int) < 65) ∨ (1 ≤ k ∧ 90 < (s[k].toNat : Int)) := by omega
              clear hok hL hL2 hD
              rcases hcase with ⟨rfl, d1⟩ | ⟨rfl, d1⟩ | ⟨d0, d1⟩ | ⟨d0, d1, d2⟩ | ⟨d0, d1⟩
              · go_wp2
                go_ret
                exact ⟨by rw [HR.out]; rfl, rfl⟩
              · have d9 : decide ((s[0].toNat : Int) ≤ 90) = false := by simp; omega
                go_wp2
                go_ret
                exact ⟨by rw [HR.out]; rfl, rfl⟩
              · have dk : ((k : Int) == 0) = false := by simp; omega
                go_wp2
                go_ret
                exact ⟨by rw [HR.out]; rfl, rfl⟩
              · have dk : ((k : Int) == 0) = false := by simp; omega
                go_wp2
                go_ret
                exact ⟨by rw [HR.out]; rfl, rfl⟩
              · have dk : ((k : Int) == 0) = false := by simp; omega
                have d9 : decide ((s[k].toNat : Int) ≤ 90) = false := by simp; omega
                go_wp2
                go_ret
                exact ⟨by rw [HR.out]; rfl, rfl⟩
        · have hltz : ¬ (k : Int) < (s.size : Int) := by omega
          have hr : r = true := by
            rw [HV.out, List.all_eq_true]
            exact fun j hj => A.out j (by have := List.mem_range.1 hj; omega)
          have HR := Lib.hid hr
          clear hr
          go_wp2
          go_ret
          exact ⟨by rw [HR.out]; rfl, rfl⟩
    · have hf : validB s = false := by simp [validB, h12]
      rw [hf]
      clear hf h0
      go_enter Try.func16, Try.ntmps16
      go_wp2
      go_ret
      exact ⟨rfl, rfl⟩

/-! The calendar at its start. -/
theorem lawI : Keyed Try.prog 3 := int_keyed Try.underlying3
theorem zeroU (w : World) : (zeroValue 87).run Try.prog w = .ok (.agg #[]) w := by kernel_rfl

theorem index_none (v : Value) (w : World) : Calls Try.prog 68 #[.slice none 0 0, v] w fun e w' => e = .returned (.int .i64 (-1)) ∧ w = w' := by
  go_enter Try.func68, Try.ntmps68
  go_wp2_with fail
  go_loop [8] (fun i => i = .int .i64 0) (fun _ => 0)
  case atStart => rfl
  case round =>
    obtain rfl := hrel
    go_wp2
    go_ret
    exact ⟨rfl, rfl⟩

theorem contains_none (v : Value) (w : World) : Calls Try.prog 58 #[.slice none 0 0, v] w fun e w' => e = .returned (.bool false) ∧ w = w' := by
  go_enter Try.func58, Try.ntmps58
  go_wp2_with (go_at_call 68; refine (index_none _ _).mono ?_; rintro e w' ⟨rfl, rfl⟩)
  go_ret
  exact ⟨rfl, rfl⟩

theorem clone_int (w : World) : Calls Try.prog 60 #[.map none] w fun e w' => e = .returned (.map none) ∧ w = w' := by
  have hq := fun w => run_eql_map_nil_sl (P := Try.prog) w 89 _ _ none Try.underlying89
  go_enter Try.func60, Try.ntmps60
  go_wp2
  go_ret
  exact ⟨rfl, rfl⟩

/-- At block g lies a calendar without holidays. -/
def CalZ (w : World) (g : Nat) : Prop := g < w.heap.size ∧ ∃ m, w.cell? ⟨g, 0, none⟩ = some (.map (some m)) ∧ w.ownsMap Try.prog 3 (unitElem (H := Unit)) m 0 (.map [])

theorem ownsMap_turns {H : Type} {P : Program} {k : TypeId} {R : Value → Option (DataW H × List MemPlace)} {S : Nat → Prop} {w w' : World} {b n : Nat} {D : DataW H} (h : w.ownsMap P k R b n D) (hb : Turns S w w') (hs : ¬ S b) : w'.ownsMap P k R b n D := by
  have hlt := h.lt
  obtain ⟨es, clock, h1, r⟩ := h
  exact ⟨es, clock, (hb.block b hlt hs).trans h1, r⟩

theorem CalZ.turns {S : Nat → Prop} {w w' : World} {g : Nat} (h : CalZ w g) (ht : Turns S w w') (hS : ∀ k, k < w.heap.size → S k → k ≠ g ∧ ∀ m, w.cell? ⟨g, 0, none⟩ = some (.map (some m)) → k ≠ m) : CalZ w' g := by
  obtain ⟨hg, m, hm, ho⟩ := h
  refine ⟨Nat.lt_of_lt_of_le hg ht.size, m, ?_, ownsMap_turns ho ht (fun hs => (hS m ho.lt hs).2 m hm rfl)⟩
  rw [ht.cell (p := ⟨g, 0, none⟩) hg (fun hs => (hS g hg hs).1 rfl)]
  exact hm
theorem CalZ.below {w w' : World} {g : Nat} (h : CalZ w g) (hb : Below w.heap.size w w') : CalZ w' g :=
  h.turns (S := fun _ => False) (Turns.of_below hb) (fun _ _ hs => hs.elim)

/-- The world behind Close of no days. -/
def closedW (w : World) (g : Nat) : World := (w.alloc (.map #[] 0)).setCell ⟨g, 0, none⟩ (.map (some w.heap.size))

theorem close_none (g : Nat) (w : World) (hg : w.cell? ⟨g, 0, none⟩ = some (.map none)) (hf : w.frozen? ⟨g, 0, none⟩ = false) (hlt : g < w.heap.size) :
    Calls Try.prog 47 #[.pointer (some ⟨g, 0, none⟩), .slice none 0 0] w fun e w' => e = .returned (.int .i64 0) ∧ w' = closedW w g := by
  have hmm := @run_makeMap Try.prog
  have hnil := fun w => fun q => run_eql_map_nil_sl (P := Try.prog) w 89 _ _ q Try.underlying89
  have hlen : (Builtin.len_ #[89] 3 #[.map (some w.heap.size)]).run Try.prog (w.alloc (.map #[] 0)) = .ok (.int .i64 0) (w.alloc (.map #[] 0)) := (World.ownsMap_made (H := Unit) w Try.prog 3 unitElem).len Try.underlying89 3
  go_enter Try.func47, Try.ntmps47
  go_wp2_with (first
    | (go_at_call 58; refine (contains_none _ _).mono ?_; rintro e w' ⟨rfl, rfl⟩)
    | (go_at_call 60; refine (clone_int _).mono ?_; rintro e w' ⟨rfl, rfl⟩))
  clear hmm hnil
  have hg2 : (w.alloc (.map #[] 0)).cell? ⟨g, 0, none⟩ = some (.map none) := (((Below.refl w.heap.size w).alloc (Nat.le_refl _) (.map #[] 0)).cell (p := ⟨g, 0, none⟩) hlt).trans hg
  have hf2 : (w.alloc (.map #[] 0)).frozen? ⟨g, 0, none⟩ = false := (((Below.refl w.heap.size w).alloc (Nat.le_refl _) (.map #[] 0)).frozen (p := ⟨g, 0, none⟩) hlt).trans hf
  obtain ⟨W, hW⟩ : ∃ W, W = w.alloc (.map #[] 0) := ⟨_, rfl⟩
  rw [← hW] at hlen hg2 hf2 ⊢
  have HW := Lib.hid hW
  clear hW
  go_loop [24] (fun i => i = .int .i64 0) (fun _ => 0)
  case atStart => rfl
  case round =>
    obtain rfl := hrel
    go_wp2
    go_ret
    exact ⟨rfl, by rw [closedW, ← HW.out]⟩

theorem calNew_any (w : World) : Calls Try.prog 24 #[.slice none 0 0] w fun e w' => e = .returned (.tuple #[.pointer (some ⟨w.heap.size, 0, none⟩), .int .i64 0]) ∧ CalZ w' w.heap.size ∧ Below w.heap.size w w' := by
  have h1 : (w.alloc (.cells #[.map none] 91)).cell? ⟨w.heap.size, 0, none⟩ = some (.map none) := by simp
  have h2 : (w.alloc (.cells #[.map none] 91)).frozen? ⟨w.heap.size, 0, none⟩ = false := by simp
  go_enter Try.func24, Try.ntmps24
  go_wp2_with fail
  refine (close_none w.heap.size _ h1 h2 (by simp)).mono ?_
  rintro e w1 ⟨rfl, hw1⟩
  have hb : Below w.heap.size w w1 := by
    rw [hw1, closedW]
    exact Below.setCell (Below.alloc ((Below.refl _ w).alloc (Nat.le_refl _) _) (by simp) _) (Nat.le_refl _) _
  have hc : CalZ w1 w.heap.size := by
    rw [hw1, closedW]
    refine ⟨by simp; omega, w.heap.size + 1, ?_, ?_⟩
    · have h3 : ((w.alloc (.cells #[.map none] 91)).alloc (.map #[] 0)).cell? ⟨w.heap.size, 0, none⟩ = some (.map none) := (((Below.refl _ (w.alloc (.cells #[.map none] 91))).alloc (Nat.le_refl _) (.map #[] 0)).cell (p := ⟨w.heap.size, 0, none⟩) (by simp)).trans h1
      exact (World.cell?_setCell_same _ _ _ h3).trans (by simp)
    · have := World.ownsMap_made (H := Unit) (w.alloc (.cells #[.map none] 91)) Try.prog 3 unitElem
      have e : (w.alloc (.cells #[.map none] 91)).heap.size = w.heap.size + 1 := by simp
      rw [e] at this ⊢
      exact this.setCell (by show w.heap.size + 1 ≠ w.heap.size; omega) _
  clear hw1 h1 h2
  go_wp2
  go_ret2
  exact ⟨rfl, hc, hb⟩

theorem day_yes (d : Int) (w : World) (h0 : 0 ≤ d) (h1 : d ≤ 1000000) : Calls Try.prog 46 #[.int .i64 d] w fun e w' => e = .returned (.bool true) ∧ w = w' := by
  go_enter Try.func46, Try.ntmps46
  go_wp2
  go_ret
  exact ⟨rfl, rfl⟩

theorem is4_any (g : Nat) (w : World) (h : CalZ w g) : Calls Try.prog 23 #[.pointer (some ⟨g, 0, none⟩), .int .i64 4] w fun e w' => e = .returned (.bool true) ∧ Below w.heap.size w w' := by
  obtain ⟨hg, m, hm, ho⟩ := h
  have hkey : keyOf Try.prog 3 (.int .i64 4) = some (.int .i64 4) := keyOf_int_mk Try.underlying3 (by decide)
  have hno : Maps.has (.map [] : DataW Unit) (.int .i64 4) = false := rfl
  go_enter Try.func23, Try.ntmps23
  go_wp2_with (first
    | (go_at_call 46; refine (day_yes _ _ (by omega) (by omega)).mono ?_; rintro e w' ⟨rfl, rfl⟩)
    | (at_lookup; refine wpList_lookup_own_unit _ rfl _ _ 89 rfl 3 87 lawI Try.underlying89 (zeroU _) m 0 (.map []) rfl ho _ _ rfl hkey ?_))
  go_ret
  exact ⟨rfl, (Below.refl _ _).alloc (Nat.le_refl _) _⟩

theorem is5_any (g : Nat) (w : World) : Calls Try.prog 23 #[.pointer (some ⟨g, 0, none⟩), .int .i64 5] w fun e w' => e = .returned (.bool false) ∧ w = w' := by
  go_enter Try.func23, Try.ntmps23
  go_wp2_with (go_at_call 46; refine (day_yes _ _ (by omega) (by omega)).mono ?_; rintro e w' ⟨rfl, rfl⟩)
  go_ret
  exact ⟨rfl, rfl⟩

end Go.Proofs.Ytohlmegbndgedaa
