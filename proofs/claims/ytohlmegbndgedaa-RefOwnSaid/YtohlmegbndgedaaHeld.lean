/-
  Maps with texts for keys, whatever their elements are: what they hold, value for value.
-/
import Derived.Maps.OwnOps
import Derived.Maps.OwnSet
import Derived.Maps.AppendAt
import Derived.Below
import Derived.Deep.Draws
import Derived.StringKeys
import Derived.Lib.Hide
import Derived.Sort.KeysCollected
namespace Go.Proofs.Ytohlmegbndgedaa.Held
open Go.RowKit Go.Maps Go.WideMaps Go.Sort

abbrev DH := DataW Value
/-- An element is read as it stands. -/
def heldE (v : Value) : Option (DH × List MemPlace) := some (.held v, [])
def klS (s : ByteArray) : Lit := .string s.data.toList
theorem klS_key (s : ByteArray) : WideAt.IsKeyLit (klS s) := by simp [klS, WideAt.IsKeyLit]
def ofB (l : List UInt8) : ByteArray := ⟨l.toArray⟩
theorem ofB_toList (l : List UInt8) : (ofB l).data.toList = l := by simp [ofB]
theorem ofB_of (s : ByteArray) : ofB s.data.toList = s := by simp [ofB]
theorem bytes_ext {x y : ByteArray} (h : x.data.toList = y.data.toList) : x = y := by rw [← ofB_of x, ← ofB_of y, h]
theorem klS_ne {s t : ByteArray} (h : s ≠ t) : klS s ≠ klS t := fun e => h (bytes_ext (Lit.string.inj e))

/-- The value at a key; z, if there is none. -/
def getV (D : DH) (s : ByteArray) (z : Value) : Value := match D.atKey (klS s) (.held z) with | .held v => v | _ => z
def hasV (D : DH) (s : ByteArray) : Bool := Maps.has D (klS s)
def putV (D : DH) (s : ByteArray) (v : Value) : DH := D.put (klS s) (.held v)

theorem getV_put_same {D : DH} (h : IsMap D) (s : ByteArray) (v z : Value) : getV (putV D s v) s z = v := by
  unfold getV putV; rw [atKey_put_same h (klS_key s)]
theorem getV_put_other {s t : ByteArray} (h : t ≠ s) (D : DH) (v z : Value) : getV (putV D s v) t z = getV D t z := by
  unfold getV putV; rw [atKey_put_other (klS_ne h)]
theorem hasV_put {D : DH} (h : IsMap D) (s t : ByteArray) (v : Value) : hasV (putV D s v) t = true ↔ t = s ∨ hasV D t = true := by
  by_cases e : t = s
  · subst e
    exact ⟨fun _ => .inl rfl, fun _ => has_put_same h (klS_key t) _⟩
  · unfold hasV putV
    rw [has_put_other (klS_ne e)]
    exact ⟨.inr, fun h => by rcases h with h | h; exact absurd h e; exact h⟩
theorem getV_no {D : DH} {s : ByteArray} (h : hasV D s = false) (z : Value) : getV D s z = z := by
  unfold getV; rw [atKey_of_not_has h]
theorem hasV_none (s : ByteArray) : hasV (.map []) s = false := rfl

/-- Keys that are texts, each once. -/
def TextKeys (D : DH) : Prop := ∃ es, D = .map es ∧ (∀ p ∈ es, ∃ l, p.1 = Lit.string l) ∧ es.Pairwise (fun p q => p.1 ≠ q.1)
theorem TextKeys.isMap {D : DH} (h : TextKeys D) : IsMap D := let ⟨es, e, _⟩ := h; ⟨es, e⟩
theorem TextKeys.tidy {D : DH} (h : TextKeys D) : Tidy D := let ⟨es, e, _, h⟩ := h; ⟨es, e, h⟩
theorem textKeys_none : TextKeys (.map []) := ⟨[], rfl, by simp, List.Pairwise.nil⟩
theorem TextKeys.put {D : DH} (h : TextKeys D) (s : ByteArray) (v : Value) : TextKeys (putV D s v) := by
  obtain ⟨es', e', hp'⟩ := h.tidy.put (klS_key s) (.held v)
  refine ⟨es', e', fun p hp => ?_, hp'⟩
  obtain ⟨es, rfl, hk, _⟩ := h
  have e2 : (putV (.map es) s v : DH) = .map (DataW.insert (klS s, .held v) (es.filter fun p => !p.1.sameKey (klS s))) := rfl
  rw [show (putV (.map es) s v : DH) = .map es' from e'] at e2
  obtain rfl : es' = _ := by injection e2
  rcases List.mem_cons.1 ((WideShapes.insert_perm _ _).mem_iff.1 hp) with rfl | hq
  · exact ⟨_, rfl⟩
  · exact hk _ (List.mem_filter.1 hq).1

theorem mem_keys {D : DH} (h : TextKeys D) (l : List UInt8) : l ∈ strKeys D ↔ hasV D (ofB l) = true := by
  obtain ⟨es, rfl, hk, _⟩ := h
  unfold hasV klS
  rw [ofB_toList, has_eq, List.any_eq_true]
  constructor
  · intro hl
    obtain ⟨p, hp, rfl⟩ := List.mem_map.1 hl
    obtain ⟨l, e⟩ := hk p hp
    refine ⟨p, hp, ?_⟩
    rw [e]
    exact WideAt.sameKey_self (by simp [WideAt.IsKeyLit])
  · rintro ⟨p, hp, hs⟩
    have e := WideAt.sameKey_eq hs
    exact List.mem_map.2 ⟨p, hp, by rw [e]; rfl⟩

theorem nodup_keys {D : DH} (h : TextKeys D) : (strKeys D).Nodup := by
  obtain ⟨es, rfl, hk, hp⟩ := h
  refine List.Pairwise.map _ (fun p q h => h) ?_
  refine hp.imp_of_mem fun {p q} hp hq hne e => hne ?_
  obtain ⟨l, e1⟩ := hk p hp
  obtain ⟨l', e2⟩ := hk q hq
  rw [e1, e2] at e ⊢
  exact congrArg _ (by simpa [strOf] using e)

/-- The keys in order. -/
def keysL (D : DH) : List (List UInt8) := (strKeys D).mergeSort leB
def keysV (D : DH) : List ByteArray := (keysL D).map ofB
theorem keysL_perm (D : DH) : (keysL D).Perm (strKeys D) := List.mergeSort_perm _ _
theorem mem_keysV {D : DH} (h : TextKeys D) (s : ByteArray) : s ∈ keysV D ↔ hasV D s = true := by
  unfold keysV
  rw [List.mem_map]
  constructor
  · rintro ⟨l, hl, rfl⟩
    exact (mem_keys h l).1 ((keysL_perm D).mem_iff.1 hl)
  · intro hs
    exact ⟨s.data.toList, (keysL_perm D).mem_iff.2 ((mem_keys h _).2 (by rw [ofB_of]; exact hs)), ofB_of s⟩
theorem keysV_length (D : DH) : (keysV D).length = Maps.size D := by
  unfold keysV
  rw [List.length_map, (keysL_perm D).length_eq]
  cases D <;> simp [strKeys, Maps.size]

/-- One text stands ahead of another. -/
def Ahead (s t : ByteArray) : Prop := s.data.toList < t.data.toList
theorem ahead_trans {a b c : ByteArray} (h : Ahead a b) (h' : Ahead b c) : Ahead a c := List.lt_trans h h'
theorem ahead_irrefl (a : ByteArray) : ¬ Ahead a a := List.lt_irrefl _

theorem keysV_sorted {D : DH} (h : TextKeys D) : (keysV D).Pairwise Ahead := by
  have hs : (keysL D).Pairwise (fun a b => leB a b = true) := List.pairwise_mergeSort (le := leB) (fun a b c h1 h2 => decide_eq_true (List.le_trans (of_decide_eq_true h1) (of_decide_eq_true h2))) (fun a b => by simpa [leB] using List.le_total a b) _
  have hn : (keysL D).Nodup := (keysL_perm D).nodup_iff.2 (nodup_keys h)
  unfold keysV
  refine List.Pairwise.map _ (fun a b h => h) ((hs.and hn).imp fun {a b} hab => ?_)
  show (ofB a).data.toList < (ofB b).data.toList
  rw [ofB_toList, ofB_toList]
  have h1 : a ≤ b := by simpa [leB] using hab.1
  by_cases h : a < b
  · exact h
  · exact absurd (List.le_antisymm h1 (List.not_lt.1 h)) hab.2

/-- Two lists in order that have the same members are the same. -/
theorem sorted_ext : ∀ {l m : List ByteArray}, l.Pairwise Ahead → m.Pairwise Ahead → (∀ x, x ∈ l ↔ x ∈ m) → l = m
  | [], [], _, _, _ => rfl
  | [], y :: m, _, _, h => absurd ((h y).2 (List.mem_cons_self ..)) (by simp)
  | x :: l, [], _, _, h => absurd ((h x).1 (List.mem_cons_self ..)) (by simp)
  | x :: l, y :: m, hl, hm, h => by
    obtain ⟨h1, h2⟩ := List.pairwise_cons.1 hl
    obtain ⟨k1, k2⟩ := List.pairwise_cons.1 hm
    have e : x = y := by
      rcases List.mem_cons.1 ((h x).1 (List.mem_cons_self ..)) with e | hx
      · exact e
      · rcases List.mem_cons.1 ((h y).2 (List.mem_cons_self ..)) with e | hy
        · exact e.symm
        · exact absurd (ahead_trans (k1 x hx) (h1 y hy)) (ahead_irrefl _)
    subst e
    rw [sorted_ext h2 k2 fun z => ?_]
    constructor
    · intro hz
      rcases List.mem_cons.1 ((h z).1 (List.mem_cons_of_mem _ hz)) with rfl | hz'
      · exact absurd (h1 z hz) (ahead_irrefl _)
      · exact hz'
    · intro hz
      rcases List.mem_cons.1 ((h z).2 (List.mem_cons_of_mem _ hz)) with rfl | hz'
      · exact absurd (k1 z hz) (ahead_irrefl _)
      · exact hz'

section
variable {P : Program} {K : TypeId} {w w' : World} {b : Nat} {D : DH}

/-- Block b is a map that holds D. -/
def MapH (P : Program) (K : TypeId) (w : World) (b : Nat) (D : DH) : Prop := w.ownsMap P K heldE b (Maps.size D) D ∧ TextKeys D

theorem owns_size {n : Nat} (h : w.ownsMap P K heldE b n D) : w.ownsMap P K heldE b (Maps.size D) D := by
  obtain ⟨es, clock, h1, h2, _, rfl⟩ := h
  exact ⟨es, clock, h1, h2, by simp [Maps.size, length_sorted], rfl⟩
theorem MapH.lt (h : MapH P K w b D) : b < w.heap.size := h.1.lt
theorem MapH.of_block (h : MapH P K w b D) (hb : w'.heap[b]? = w.heap[b]?) : MapH P K w' b D := by
  obtain ⟨⟨es, clock, h1, r⟩, h2⟩ := h
  exact ⟨⟨es, clock, hb.trans h1, r⟩, h2⟩
theorem MapH.below (h : MapH P K w b D) (hb : Below w.heap.size w w') : MapH P K w' b D := h.of_block (hb.block b h.lt)
theorem MapH.alloc (h : MapH P K w b D) (o : Obj) : MapH P K (w.alloc o) b D := h.of_block (Below.heap_alloc w o b h.lt)
theorem MapH.drew (h : MapH P K w b D) : MapH P K w.drew b D := h
theorem MapH.drewN (h : MapH P K w b D) (n : Nat) : MapH P K (w.drewN n) b D := h
theorem MapH.far (h : MapH P K w b D) {p : Addr} (hp : b ≠ p.block) (u : Value) : MapH P K (w.setCell p u) b D := h.of_block (Below.heap_setCell w p u b hp)
theorem mapH_made (w : World) : MapH P K (w.alloc (.map #[] 0)) w.heap.size (.map []) := ⟨World.ownsMap_made w P K heldE, textKeys_none⟩

theorem held_eq {D : DH} {s : ByteArray} {v z : Value} {ps : List MemPlace} (h : heldE v = some (D.atKey (klS s) (.held z), ps)) : v = getV D s z := by
  simp only [heldE, Option.some.injEq, Prod.mk.injEq] at h
  unfold getV
  rw [← h.1]

theorem MapH.look {t e : TypeId} {z : Value} (h : MapH P K w b D) (hK : P.underlying K = some .string) (ht : P.underlying t = some (.map K e)) (hz : (zeroValue e).run P w = .ok z w) {s : ByteArray} (hs : s.size ≤ maxLen) :
    (Instr.lookup t (.map (some b)) (.string s) false).run P w = .ok (getV D s z) w := by
  obtain ⟨v, ps, hrun, hv⟩ := h.1.lookup (string_keyed hK) ht hz (zd := .held z) (zp := []) rfl (keyOf_string_mk hK hs)
  rw [hrun, held_eq hv]
theorem MapH.lookOk {t e : TypeId} {z : Value} (h : MapH P K w b D) (hK : P.underlying K = some .string) (ht : P.underlying t = some (.map K e)) (hz : (zeroValue e).run P w = .ok z w) {s : ByteArray} (hs : s.size ≤ maxLen) :
    (Instr.lookup t (.map (some b)) (.string s) true).run P w = .ok (.tuple #[getV D s z, .bool (hasV D s)]) w := by
  obtain ⟨v, ps, hrun, hv⟩ := h.1.look_ok (string_keyed hK) ht hz (zd := .held z) (zp := []) rfl (keyOf_string_mk hK hs)
  rw [hrun, held_eq hv]
  rfl
theorem MapH.put {t e : TypeId} (h : MapH P K w b D) (hK : P.underlying K = some .string) (ht : P.underlying t = some (.map K e)) (hn : Maps.size D < maxLen) {s : ByteArray} (hs : s.size ≤ maxLen) (v : Value) :
    ∃ w', (Instr.mapUpdate t (.map (some b)) (.string s) v).run P w = .ok () w' ∧ MapH P K w' b (putV D s v) ∧ w.grownBy w' (some b) := by
  obtain ⟨w', hrun, ho, hg⟩ := h.1.store (string_keyed hK) ht hn (keyOf_string_mk hK hs) (d := .held v) (ps := []) rfl
  exact ⟨w', hrun, ⟨owns_size ho, h.2.put s v⟩, hg.grown⟩
theorem MapH.len {t e : TypeId} (h : MapH P K w b D) (ht : P.underlying t = some (.map K e)) (ty : TypeId) : (Builtin.len_ #[t] ty #[.map (some b)]).run P w = .ok (.int .i64 (Maps.size D)) w := h.1.len ht ty
end
end Go.Proofs.Ytohlmegbndgedaa.Held
