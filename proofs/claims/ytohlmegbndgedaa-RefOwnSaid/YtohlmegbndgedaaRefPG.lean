/-
  ref: Party, sorted at parties.
-/
import Derived.Test.YtohlmegbndgedaaRefC
import Derived.Maps.AppendAt
import Derived.Deep.AppendLies
namespace Go.Proofs.Ytohlmegbndgedaa
open Go.RowKit Go.Maps Go.WideMaps Go.Sort Go.Shelf Held

def Pty.of (v : Value) : Pty :=
  match v with
  | .agg cs => match cs.toList with
    | [.string x0, .int _ x1] => ⟨x0, x1⟩
    | _ => pty0
  | _ => pty0
theorem Pty.of_val (x : Pty) : Pty.of x.val = x := rfl
/-- The one of a name. -/
def getP (D : DH) (s : ByteArray) : Pty := Pty.of (getV D s pty0.val)
theorem getP_val {D : DH} (h : Typed Pty.val D) (s : ByteArray) : getV D s pty0.val = (getP D s).val := by
  cases hh : hasV D s with
  | false => rw [getP, getV_no hh]; rfl
  | true =>
    obtain ⟨x, hx⟩ := h s pty0.val hh
    rw [getP, hx, Pty.of_val]

theorem getP_nil (s : ByteArray) (w : World) : Calls Try.prog 21 #[.pointer none, .string s] w fun e w' => e = .returned (.tuple #[pty0.val, .bool false]) ∧ Below w.heap.size w w' := by
  go_enter Try.func21, Try.ntmps21
  go_wp2
  refine bodyPost_ret (v := .tuple #[.agg #[.string ByteArray.empty, .int .i64 0], .bool false]) (by simp [results, Try.results21, go_sem]; rfl) rfl ⟨rfl, ?_⟩
  exact (Below.refl _ _).alloc (Nat.le_refl _) _

set_option maxRecDepth 100000 in
theorem getP_any {R g : Nat} {p q r : Option Nat} {d : Dat} (s : ByteArray) (w : World) (h : RefAt w R g p q r d) (hs : s.size ≤ maxLen) :
    Calls Try.prog 21 #[.pointer (some ⟨R, 0, none⟩), .string s] w fun e w' => e = .returned (.tuple #[(getP d.p s).val, .bool (hasV d.p s)]) ∧ Below w.heap.size w w' := by
  have h0 := h.below ((Below.refl w.heap.size w).alloc (Nat.le_refl _) (.cells #[.string ⟨#[]⟩, .int .i64 0] 37))
  have hlk := h0.mp.lookOk Try.underlying57 zeroPtyV hs
  rw [getP_val h.tp] at hlk
  have c1 := h0.c1
  obtain ⟨x, hx⟩ : ∃ x, x = getP d.p s := ⟨_, rfl⟩
  obtain ⟨b, hb⟩ : ∃ b, b = hasV d.p s := ⟨_, rfl⟩
  rw [← hx, ← hb] at hlk ⊢
  have hlt := h.lt
  clear hx hb h h0
  simp only [Pty.val] at hlk ⊢
  go_enter Try.func21, Try.ntmps21
  go_wp2
  refine bodyPost_ret (v := .tuple #[.agg #[.string x.name, .int .i64 x.limit], .bool b]) (by simp [results, Try.results21, go_sem]) rfl ⟨rfl, ?_⟩
  first
    | exact ((Below.refl _ _).alloc (Nat.le_refl _) _).alloc (by simp) _
    | exact (((Below.refl _ _).alloc (Nat.le_refl _) _).alloc (by simp) _).setCells (by simp) _

end Go.Proofs.Ytohlmegbndgedaa
