/-
  ref: in, right; what is added to a map, one by one.
-/
import Derived.Test.YtohlmegbndgedaaRefA
import Derived.Deep.Slices
import Derived.Deep.RegionHeld3
import Derived.ChangeSame
import Derived.Test.YtohlmegbndgedaaOpen
namespace Go.Proofs.Ytohlmegbndgedaa
open Go.RowKit Go.Maps Go.WideMaps Held

def i64 (n : Int) : Prop := -9223372036854775808 ≤ n ∧ n ≤ 9223372036854775807
theorem i64_of {n : Int} (h : (Lit.int .i64 n).wf = true) : i64 n := by
  simp [Lit.wf, IntKind.min, IntKind.max, IntKind.signed, IntKind.bits] at h; exact h
theorem one_at {cs : List Value} {k : Nat} {v : Value} (h : (cs.drop k).take 1 = [v]) : cs[k]? = some v := by
  rw [← List.head?_drop]
  cases hd : cs.drop k with
  | nil => rw [hd] at h; simp at h
  | cons x r => rw [hd] at h; simp at h; subst h; rfl

def inB (n l m : Int) : Bool := decide (l ≤ n) && decide (n ≤ m)
theorem in_any (n l m : Int) (w : World) : Calls Try.prog 36 #[.int .i64 n, .int .i64 l, .int .i64 m] w fun e w' => e = .returned (.bool (inB n l m)) ∧ w = w' := by
  obtain ⟨b1, h1⟩ : ∃ b1, decide (l ≤ n) = b1 := ⟨_, rfl⟩
  obtain ⟨b2, h2⟩ : ∃ b2, decide (n ≤ m) = b2 := ⟨_, rfl⟩
  have he : inB n l m = (b1 && b2) := by rw [inB, h1, h2]
  rw [he]
  clear he
  cases b1 <;> cases b2
  all_goals
    go_enter Try.func36, Try.ntmps36
    go_wp2
    go_ret
    exact ⟨rfl, rfl⟩

def rightE (b : Bool) : Int := if b then 0 else 1
theorem right_any (b : Bool) (w : World) : Calls Try.prog 29 #[.bool b] w fun e w' => e = .returned (.int .i64 (rightE b)) ∧ w = w' := by
  cases b
  all_goals
    go_enter Try.func29, Try.ntmps29
    go_wp2
    go_ret
    exact ⟨rfl, rfl⟩

/-- The map value p holds D. -/
def MapO (w : World) (p : Option Nat) (D : DH) : Prop := (p = none ∧ D = .map []) ∨ ∃ m, p = some m ∧ MapH Try.prog 9 w m D
theorem MapO.keys {w : World} {p : Option Nat} {D : DH} (h : MapO w p D) : TextKeys D := by
  rcases h with ⟨_, rfl⟩ | ⟨m, _, h⟩
  · exact textKeys_none
  · exact h.2
theorem MapO.below {w w' : World} {p : Option Nat} {D : DH} (h : MapO w p D) (hb : Below w.heap.size w w') : MapO w' p D := by
  rcases h with h | ⟨m, e, h⟩
  · exact .inl h
  · exact .inr ⟨m, e, h.below hb⟩
theorem MapO.turns {S : Nat → Prop} {w w' : World} {p : Option Nat} {D : DH} (h : MapO w p D) (ht : Turns S w w') (hs : ∀ m, p = some m → ¬ S m) : MapO w' p D := by
  rcases h with h | ⟨m, e, h⟩
  · exact .inl h
  · exact .inr ⟨m, e, h.of_block (ht.block m h.lt (hs m e))⟩
theorem MapO.lookOk {w : World} {p : Option Nat} {D : DH} {t e : TypeId} {z : Value} (h : MapO w p D) (ht : Try.prog.underlying t = some (.map 9 e)) (hz : ∀ w, (zeroValue e).run Try.prog w = .ok z w) {s : ByteArray} (hs : s.size ≤ maxLen) :
    (Instr.lookup t (.map p) (.string s) true).run Try.prog w = .ok (.tuple #[getV D s z, .bool (hasV D s)]) w := by
  rcases h with ⟨rfl, rfl⟩ | ⟨m, rfl, h⟩
  · rw [getV_no (hasV_none s), hasV_none]
    exact look_nil (w := w) true (string_keyed Try.underlying9) ht (hz w) (keyOf_string_mk Try.underlying9 hs)
  · exact h.lookOk Try.underlying9 ht (hz w) hs

/-- Why one is not added; 0: it is. -/
def stepE (valid : Bool) (ahead : Int) (has : Bool) (behind : Int) (size most : Nat) : Int :=
  if valid = false then 9 else if ahead ≠ 0 then ahead else if has = true then 8 else if behind ≠ 0 then behind else if most ≤ size then 10 else 0

/-- What becomes of a map that is added to, one by one, and the error's number; D0: what it was. -/
def addL {α : Type} (nm : α → ByteArray) (cl : α → Value) (ah bh : α → Int) (most : Nat) (D0 : DH) : DH → List α → DH × Int
  | D, [] => (D, 0)
  | D, x :: r => if stepE (validB (nm x)) (ah x) (hasV D (nm x)) (bh x) (Maps.size D) most = 0 then addL nm cl ah bh most D0 (putV D (nm x) (cl x)) r
    else (D0, stepE (validB (nm x)) (ah x) (hasV D (nm x)) (bh x) (Maps.size D) most)

/-- Each value is one of a kind. -/
def Typed {α : Type} (cl : α → Value) (D : DH) : Prop := ∀ s z, hasV D s = true → ∃ x, getV D s z = cl x
theorem typed_none {α : Type} (cl : α → Value) : Typed cl (.map []) := fun s z h => by rw [hasV_none] at h; cases h
theorem Typed.put {α : Type} {cl : α → Value} {D : DH} (h : Typed cl D) (hk : TextKeys D) (s : ByteArray) (x : α) : Typed cl (putV D s (cl x)) := fun t z ht => by
  by_cases e : t = s
  · subst e; exact ⟨x, getV_put_same hk.isMap t (cl x) z⟩
  · rw [getV_put_other e]
    rcases (hasV_put hk.isMap s t (cl x)).1 ht with h' | h'
    · exact absurd h' e
    · exact h t z h'

theorem size_putV {D : DH} (h : TextKeys D) (s : ByteArray) (v : Value) : Maps.size (putV D s v) = if hasV D s then Maps.size D else Maps.size D + 1 := by
  unfold putV
  rw [size_put h.tidy]; rfl

theorem valid_len {s : ByteArray} (h : validB s = true) : s.size ≤ 12 := by
  unfold validB at h
  simp only [Bool.and_eq_true, decide_eq_true_eq] at h
  exact h.1.2

theorem drop_consD {α : Type} {l : List α} {k : Nat} (d : α) (h : k < l.length) : l.drop k = l.getD k d :: l.drop (k + 1) := by
  rw [List.drop_eq_getElem_cons h]
  simp [List.getD, h]

/-- What 'added' tells, and leaves. -/
def AddedPost (p : Option Nat) (D : DH) (F : DH × Int) (w : World) (e : Ending) (w' : World) : Prop :=
  Below w.heap.size w w' ∧ ∃ p', e = .returned (.tuple #[.map p', .int .i64 F.2]) ∧ MapO w' p' F.1 ∧ ((F.2 ≠ 0 ∧ p' = p ∧ F.1 = D) ∨ (F.2 = 0 ∧ ∃ m, p' = some m ∧ w.heap.size ≤ m))

end Go.Proofs.Ytohlmegbndgedaa
