/-
  ref: Account, sorted at accounts.
-/
import Derived.Test.YtohlmegbndgedaaRefC
import Derived.Maps.AppendAt
import Derived.Deep.AppendLies
namespace Go.Proofs.Ytohlmegbndgedaa
open Go.RowKit Go.Maps Go.WideMaps Go.Sort Go.Shelf Held

def Acc.of (v : Value) : Acc :=
  match v with
  | .agg cs => match cs.toList with
    | [.string x0, .string x1] => ⟨x0, x1⟩
    | _ => acc0
  | _ => acc0
theorem Acc.of_val (x : Acc) : Acc.of x.val = x := rfl
/-- The one of a name. -/
def getQ (D : DH) (s : ByteArray) : Acc := Acc.of (getV D s acc0.val)
theorem getQ_val {D : DH} (h : Typed Acc.val D) (s : ByteArray) : getV D s acc0.val = (getQ D s).val := by
  cases hh : hasV D s with
  | false => rw [getQ, getV_no hh]; rfl
  | true =>
    obtain ⟨x, hx⟩ := h s acc0.val hh
    rw [getQ, hx, Acc.of_val]

theorem getQ_nil (s : ByteArray) (w : World) : Calls Try.prog 22 #[.pointer none, .string s] w fun e w' => e = .returned (.tuple #[acc0.val, .bool false]) ∧ Below w.heap.size w w' := by
  go_enter Try.func22, Try.ntmps22
  go_wp2
  refine bodyPost_ret (v := .tuple #[.agg #[.string ByteArray.empty, .string ByteArray.empty], .bool false]) (by simp [results, Try.results22, go_sem]; rfl) rfl ⟨rfl, ?_⟩
  exact (Below.refl _ _).alloc (Nat.le_refl _) _

set_option maxRecDepth 100000 in
theorem getQ_any {R g : Nat} {p q r : Option Nat} {d : Dat} (s : ByteArray) (w : World) (h : RefAt w R g p q r d) (hs : s.size ≤ maxLen) :
    Calls Try.prog 22 #[.pointer (some ⟨R, 0, none⟩), .string s] w fun e w' => e = .returned (.tuple #[(getQ d.a s).val, .bool (hasV d.a s)]) ∧ Below w.heap.size w w' := by
  have h0 := h.below ((Below.refl w.heap.size w).alloc (Nat.le_refl _) (.cells #[.string ⟨#[]⟩, .string ⟨#[]⟩] 40))
  have hlk := h0.ma.lookOk Try.underlying58 zeroAccV hs
  rw [getQ_val h.ta] at hlk
  have c1 := h0.c2
  obtain ⟨x, hx⟩ : ∃ x, x = getQ d.a s := ⟨_, rfl⟩
  obtain ⟨b, hb⟩ : ∃ b, b = hasV d.a s := ⟨_, rfl⟩
  rw [← hx, ← hb] at hlk ⊢
  have hlt := h.lt
  clear hx hb h h0
  simp only [Acc.val] at hlk ⊢
  go_enter Try.func22, Try.ntmps22
  go_wp2
  refine bodyPost_ret (v := .tuple #[.agg #[.string x.name, .string x.party], .bool b]) (by simp [results, Try.results22, go_sem]) rfl ⟨rfl, ?_⟩
  first
    | exact ((Below.refl _ _).alloc (Nat.le_refl _) _).alloc (by simp) _
    | exact (((Below.refl _ _).alloc (Nat.le_refl _) _).alloc (by simp) _).setCells (by simp) _

end Go.Proofs.Ytohlmegbndgedaa
