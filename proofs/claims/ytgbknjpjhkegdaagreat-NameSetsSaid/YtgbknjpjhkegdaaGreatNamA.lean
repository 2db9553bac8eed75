/-
  A set of texts in memory ('SetAt'); what turns ('Turns'); strings.Clone, Has, Len.
-/
import Derived.Test.YtgbknjpjhkegdaaGreatOpen
import Derived.Test.YtgbknjpjhkegdaaGreatIterP
import Derived.Maps.OwnSet
import Derived.WalkKit
import Derived.WalkSpells
import Derived.WalkLawsBesides
import Derived.IntWalk
import Derived.Lib.Hide
import Derived.Shelf.AbstractIn
import Derived.StringKeys
namespace Go.Proofs.YtgbknjpjhkegdaaGreat
open Go.RowKit Go.Maps Go.WideMaps

theorem lawS : Keyed Tryz.prog 9 := string_keyed Tryz.underlying9
theorem zeroU (w : World) : (zeroValue 104).run Tryz.prog w = .ok (.agg #[]) w := by kernel_rfl

abbrev DU := DataW Unit
/-- Is a text among the keys of a map's datum? -/
def hasS (D : DU) (x : ByteArray) : Bool := Maps.has D (.string x.data.toList)

/-- What lay in w lies in w' as it lay, but for the blocks in S. -/
structure Turns (S : Nat → Prop) (w w' : World) : Prop where
  os : w'.os = w.os
  tape : w'.tape = w.tape
  output : w'.output = w.output
  size : w.heap.size ≤ w'.heap.size
  block : ∀ k, k < w.heap.size → ¬ S k → w'.heap[k]? = w.heap[k]?

theorem Turns.below {S : Nat → Prop} {w0 w w' : World} (h : Turns S w w') (hb : Below w0.heap.size w0 w) (hS : ∀ k, k < w0.heap.size → ¬ S k) : Below w0.heap.size w0 w' :=
  ⟨h.os.trans hb.os, h.tape.trans hb.tape, h.output.trans hb.output, Nat.le_trans hb.size h.size, fun k hk => (h.block k (Nat.lt_of_lt_of_le hk hb.size) (hS k hk)).trans (hb.block k hk)⟩

theorem Turns.of_below {S : Nat → Prop} {w w' : World} (h : Below w.heap.size w w') : Turns S w w' := ⟨h.os, h.tape, h.output, h.size, fun k hk _ => h.block k hk⟩

theorem Turns.trans {S : Nat → Prop} {a b c : World} (h : Turns S a b) (k : Turns S b c) : Turns S a c :=
  ⟨k.os.trans h.os, k.tape.trans h.tape, k.output.trans h.output, Nat.le_trans h.size k.size, fun i hi hs => (k.block i (Nat.lt_of_lt_of_le hi h.size) hs).trans (h.block i hi hs)⟩

theorem Turns.cell {S : Nat → Prop} {w w' : World} (h : Turns S w w') {p : Addr} (hp : p.block < w.heap.size) (hs : ¬ S p.block) : w'.cell? p = w.cell? p := World.cell?_of_block (w := w) (h.block p.block hp hs)
theorem Turns.frozen {S : Nat → Prop} {w w' : World} (h : Turns S w w') {p : Addr} (hp : p.block < w.heap.size) (hs : ¬ S p.block) : w'.frozen? p = w.frozen? p := World.frozen?_of_block (w := w) (h.block p.block hp hs)

/-- The map value p reads as D. -/
def MapHas (w : World) (p : Option Nat) (D : DU) : Prop := (p = none ∧ D = .map []) ∨ ∃ m, p = some m ∧ w.ownsMap Tryz.prog 9 (unitElem (H := Unit)) m (Maps.size D) D

/-- At block b lies a set, its map the value p; its texts are the keys of D. -/
def SetAt (w : World) (b : Nat) (p : Option Nat) (D : DU) : Prop :=
  b < w.heap.size ∧ w.frozen? ⟨b, 0, none⟩ = false ∧ w.cell? ⟨b, 0, none⟩ = some (.map p) ∧ MapHas w p D

theorem ownsMap_turns {H : Type} {P : Program} {k : TypeId} {R : Value → Option (DataW H × List MemPlace)} {S : Nat → Prop} {w w' : World} {b n : Nat} {D : DataW H} (h : w.ownsMap P k R b n D) (hb : Turns S w w') (hs : ¬ S b) : w'.ownsMap P k R b n D := by
  have hlt := h.lt
  obtain ⟨es, clock, h1, r⟩ := h
  exact ⟨es, clock, (hb.block b hlt hs).trans h1, r⟩

theorem MapHas.turns {S : Nat → Prop} {w w' : World} {p : Option Nat} {D : DU} (h : MapHas w p D) (ht : Turns S w w') (hs : ∀ m, p = some m → ¬ S m) : MapHas w' p D := by
  rcases h with h | ⟨m, rfl, ho⟩
  · exact .inl h
  · exact .inr ⟨m, rfl, ownsMap_turns ho ht (hs m rfl)⟩

theorem SetAt.turns {S : Nat → Prop} {w w' : World} {b : Nat} {p : Option Nat} {D : DU} (h : SetAt w b p D) (ht : Turns S w w') (hb : ¬ S b) (hs : ∀ m, p = some m → ¬ S m) : SetAt w' b p D := by
  obtain ⟨h1, h2, h3, h4⟩ := h
  have := ht.size
  exact ⟨by omega, by rw [ht.frozen (p := ⟨b, 0, none⟩) h1 hb]; exact h2, by rw [ht.cell (p := ⟨b, 0, none⟩) h1 hb]; exact h3, h4.turns ht hs⟩

theorem SetAt.below {w w' : World} {b : Nat} {p : Option Nat} {D : DU} (h : SetAt w b p D) (hb : Below w.heap.size w w') : SetAt w' b p D :=
  h.turns (S := fun _ => False) (Turns.of_below hb) (fun h => h) (fun _ _ h => h)

theorem MapHas.tidy {w : World} {p : Option Nat} {D : DU} (h : MapHas w p D) : Tidy D := by
  rcases h with ⟨_, rfl⟩ | ⟨m, rfl, ho⟩
  · exact tidy_empty
  · exact ho.tidy lawS

theorem ownsMap_size {H : Type} {P : Program} {k : TypeId} {R : Value → Option (DataW H × List MemPlace)} {w : World} {b n : Nat} {D : DataW H} (h : w.ownsMap P k R b n D) : w.ownsMap P k R b (Maps.size D) D := by
  obtain ⟨es, clock, h1, F, _, hD⟩ := h
  refine ⟨es, clock, h1, F, ?_, hD⟩
  rw [hD, Maps.size, length_read]; exact Nat.le_refl _

theorem TextsAt.below {w w' : World} {v : Value} {ss : List ByteArray} (h : TextsAt w v ss) (hb : Below w.heap.size w w') : TextsAt w' v ss := by
  obtain ⟨a, c, h1, h2, h3, h4⟩ := h
  refine ⟨a, c, h1, h2, h3, ?_⟩
  rcases h4 with h4 | ⟨b, off, e, hlt, hc⟩
  · exact .inl h4
  · exact .inr ⟨b, off, e, by have := hb.size; omega, fun j hj => by rw [hb.cell (p := ⟨b, off + j, none⟩) hlt]; exact hc j hj⟩

theorem TextsAt.ne {w : World} {a : Option Addr} {ss : List ByteArray} {k : Nat} (h : ss = [] ∨ ∃ b off, a = some ⟨b, off, none⟩ ∧ b < w.heap.size ∧ ∀ j, j < ss.length → w.cell? ⟨b, off + j, none⟩ = some (.string (ss.getD j ByteArray.empty))) (hk : k < ss.length) :
    ∃ b off, a = some ⟨b, off, none⟩ ∧ b < w.heap.size ∧ ∀ j, j < ss.length → w.cell? ⟨b, off + j, none⟩ = some (.string (ss.getD j ByteArray.empty)) := by
  rcases h with h | h
  · subst h; simp at hk
  · exact h

theorem getD_lt {ss : List ByteArray} {j : Nat} (h : j < ss.length) : ss.getD j ByteArray.empty = ss[j] := by simp [List.getD, h]

theorem take_snoc {ss : List ByteArray} {k : Nat} (h : k < ss.length) : ss.take (k + 1) = ss.take k ++ [ss.getD k ByteArray.empty] := by
  rw [List.take_succ_eq_append_getElem h, getD_lt h]

theorem ret_int {k : IntKind} {a b : Int} (h : a = b) : Ending.returned (.int k a) = .returned (.int k b) := by rw [h]

theorem clone_any (s : ByteArray) (w : World) (hs : s.size ≤ 140737488351232) : Calls Tryz.prog 97 #[.string s] w fun e w' => e = .returned (.string s) ∧ Below w.heap.size w w' := by
  have hc : Calls Tryz.prog 135 #[.string s] w fun e w' => e = .returned (.string s) ∧ Below w.heap.size w w' := Any.stringslite_Clone Tryz.laysM316 s w (by omega)
  have HC := Lib.hid hc
  clear hc
  go_enter Tryz.func97, Tryz.ntmps97
  go_wp2_with (go_at_call 135; refine HC.out.mono ?_; rintro e w' ⟨rfl, hb⟩)
  go_ret
  exact ⟨rfl, hb⟩

theorem len_nil (w : World) : Calls Tryz.prog 25 #[.pointer none] w fun e w' => e = .returned (.int .i64 0) ∧ w = w' := by
  go_enter Tryz.func25, Tryz.ntmps25
  go_wp2
  go_ret
  exact ⟨rfl, rfl⟩

theorem len_any (b : Nat) (p : Option Nat) (D : DU) (w : World) (h : SetAt w b p D) : Calls Tryz.prog 25 #[.pointer (some ⟨b, 0, none⟩)] w fun e w' => e = .returned (.int .i64 (Maps.size D)) ∧ w = w' := by
  obtain ⟨h1, h2, h3, ⟨rfl, rfl⟩ | ⟨m, rfl, ho⟩⟩ := h
  · have hrun := fun ty => Maps.len_nil (w := w) Tryz.underlying58 ty
    go_enter Tryz.func25, Tryz.ntmps25
    go_wp2
    go_ret
    exact ⟨rfl, rfl⟩
  · go_enter Tryz.func25, Tryz.ntmps25
    go_wp2_with (at_len; refine wpList_len_own _ rfl _ 58 rfl 9 104 Tryz.underlying58 _ m _ _ rfl ho ?_)
    go_ret
    exact ⟨rfl, rfl⟩

theorem has_nil (x : ByteArray) (w : World) : Calls Tryz.prog 23 #[.pointer none, .string x] w fun e w' => e = .returned (.bool false) ∧ w = w' := by
  go_enter Tryz.func23, Tryz.ntmps23
  go_wp2
  go_ret
  exact ⟨rfl, rfl⟩

theorem size_max {s : ByteArray} (h : s.size ≤ 140737488351232) : s.size ≤ maxLen := by unfold maxLen; omega

theorem has_any (b : Nat) (p : Option Nat) (D : DU) (x : ByteArray) (w : World) (h : SetAt w b p D) (hx : x.size ≤ 140737488351232) : Calls Tryz.prog 23 #[.pointer (some ⟨b, 0, none⟩), .string x] w fun e w' => e = .returned (.bool (hasS D x)) ∧ Below w.heap.size w w' := by
  have hkey := keyOf_string_mk Tryz.underlying9 (size_max hx)
  obtain ⟨h1, h2, h3, ⟨rfl, rfl⟩ | ⟨m, rfl, ho⟩⟩ := h
  · have hrun := look_nil (w := w) true lawS Tryz.underlying58 (zeroU _) hkey
    go_enter Tryz.func23, Tryz.ntmps23
    go_wp2
    go_ret
    exact ⟨rfl, (Below.refl _ _).alloc (Nat.le_refl _) _⟩
  · go_enter Tryz.func23, Tryz.ntmps23
    go_wp2_with (at_lookup; refine wpList_lookup_own_unit _ rfl _ _ 58 rfl 9 104 lawS Tryz.underlying58 (zeroU _) m _ D rfl ho _ _ rfl hkey ?_)
    go_ret
    exact ⟨rfl, (Below.refl _ _).alloc (Nat.le_refl _) _⟩

end Go.Proofs.YtgbknjpjhkegdaaGreat
