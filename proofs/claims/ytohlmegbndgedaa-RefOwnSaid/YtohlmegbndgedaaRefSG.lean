/-
  ref: Asset, sorted at assets.
-/
import Derived.Test.YtohlmegbndgedaaRefC
import Derived.Maps.AppendAt
import Derived.Deep.AppendLies
namespace Go.Proofs.Ytohlmegbndgedaa
open Go.RowKit Go.Maps Go.WideMaps Go.Sort Go.Shelf Held

def Ast.of (v : Value) : Ast :=
  match v with
  | .agg cs => match cs.toList with
    | [.string x0, .bool x1, .bool x2, .int _ x3, .int _ x4, .int _ x5, .int _ x6, .int _ x7] => ⟨x0, x1, x2, x3, x4, x5, x6, x7⟩
    | _ => ast0
  | _ => ast0
theorem Ast.of_val (x : Ast) : Ast.of x.val = x := rfl
/-- The one of a name. -/
def getS (D : DH) (s : ByteArray) : Ast := Ast.of (getV D s ast0.val)
theorem getS_val {D : DH} (h : Typed Ast.val D) (s : ByteArray) : getV D s ast0.val = (getS D s).val := by
  cases hh : hasV D s with
  | false => rw [getS, getV_no hh]; rfl
  | true =>
    obtain ⟨x, hx⟩ := h s ast0.val hh
    rw [getS, hx, Ast.of_val]

theorem getS_nil (s : ByteArray) (w : World) : Calls Try.prog 20 #[.pointer none, .string s] w fun e w' => e = .returned (.tuple #[ast0.val, .bool false]) ∧ Below w.heap.size w w' := by
  go_enter Try.func20, Try.ntmps20
  go_wp2
  refine bodyPost_ret (v := .tuple #[.agg #[.string ByteArray.empty, .bool false, .bool false, .int .i64 0, .int .i64 0, .int .i64 0, .int .i64 0, .int .i64 0], .bool false]) (by simp [results, Try.results20, go_sem]; rfl) rfl ⟨rfl, ?_⟩
  exact (Below.refl _ _).alloc (Nat.le_refl _) _

set_option maxRecDepth 100000 in
theorem getS_any {R g : Nat} {p q r : Option Nat} {d : Dat} (s : ByteArray) (w : World) (h : RefAt w R g p q r d) (hs : s.size ≤ maxLen) :
    Calls Try.prog 20 #[.pointer (some ⟨R, 0, none⟩), .string s] w fun e w' => e = .returned (.tuple #[(getS d.s s).val, .bool (hasV d.s s)]) ∧ Below w.heap.size w w' := by
  have h0 := h.below ((Below.refl w.heap.size w).alloc (Nat.le_refl _) (.cells #[.string ⟨#[]⟩, .bool false, .bool false, .int .i64 0, .int .i64 0, .int .i64 0, .int .i64 0, .int .i64 0] 29))
  have hlk := h0.ms.lookOk Try.underlying59 zeroAstV hs
  rw [getS_val h.ts] at hlk
  have c1 := h0.c3
  obtain ⟨x, hx⟩ : ∃ x, x = getS d.s s := ⟨_, rfl⟩
  obtain ⟨b, hb⟩ : ∃ b, b = hasV d.s s := ⟨_, rfl⟩
  rw [← hx, ← hb] at hlk ⊢
  have hlt := h.lt
  clear hx hb h h0
  simp only [Ast.val] at hlk ⊢
  go_enter Try.func20, Try.ntmps20
  go_wp2
  refine bodyPost_ret (v := .tuple #[.agg #[.string x.name, .bool x.cash, .bool x.pledge, .int .i64 x.unit, .int .i64 x.least, .int .i64 x.price, .int .i64 x.cut, .int .i64 x.close], .bool b]) (by simp [results, Try.results20, go_sem]) rfl ⟨rfl, ?_⟩
  first
    | exact ((Below.refl _ _).alloc (Nat.le_refl _) _).alloc (by simp) _
    | exact (((Below.refl _ _).alloc (Nat.le_refl _) _).alloc (by simp) _).setCells (by simp) _

end Go.Proofs.Ytohlmegbndgedaa
