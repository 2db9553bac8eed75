/-
  ref: the walk of RefNone.
-/
import Derived.Test.YtohlmegbndgedaaRefF
namespace Go.Proofs.Ytohlmegbndgedaa
open Go.RowKit Go.Maps Go.WideMaps Held

set_option maxRecDepth 100000 in
set_option maxHeartbeats 1600000 in
theorem RefNone_walk (s : ByteArray) (n : Int) (w : World) (_ : s.size ≤ 140737488351232) (hn : (Lit.int .i64 n).wf = true) :
    Calls Try.prog 6 #[.string s, .int .i64 n] w fun e w' => e = .returned (.bool true) ∧ Below w.heap.size w w' := by
  have hn2 := i64_of hn
  clear hn
  unfold i64 at hn2
  go_enter Try.func6, Try.ntmps6
  go_wp2_with fail
  refine (getP_nil _ _).mono ?_
  rintro e w1 ⟨rfl, h1⟩
  have H1 := Lib.hid (h1.alloc h1.size (.cells #[.string ByteArray.empty, .int .i64 0] 37))
  simp only [Pty.val, pty0]
  clear h1
  go_wp2_with fail
  refine (getQ_nil _ _).mono ?_
  rintro e w2 ⟨rfl, h2⟩
  have H2 := Lib.hid ((H1.out.trans (h2.mono H1.out.size)).alloc (H1.out.trans (h2.mono H1.out.size)).size (.cells #[.string ByteArray.empty, .string ByteArray.empty] 40))
  simp only [Acc.val, acc0]
  clear h2
  go_wp2_with fail
  refine (getS_nil _ _).mono ?_
  rintro e w3 ⟨rfl, h3⟩
  have H3 := Lib.hid ((H2.out.trans (h3.mono H2.out.size)).alloc (H2.out.trans (h3.mono H2.out.size)).size (.cells #[.string ByteArray.empty, .bool false, .bool false, .int .i64 0, .int .i64 0, .int .i64 0, .int .i64 0, .int .i64 0] 29))
  simp only [Ast.val, ast0]
  clear h3
  go_wp2_with fail
  refine (alive_any _).mono ?_
  rintro e w4 ⟨rfl, h4⟩
  have H4 := Lib.hid (H3.out.trans (h4.mono H3.out.size))
  clear h4
  go_wp2_with fail
  refine (allP_nil _).mono ?_
  rintro e w5 ⟨rfl, h5⟩
  have H5 := Lib.hid (H4.out.trans (h5.mono H4.out.size))
  clear h5
  go_wp2_with fail
  refine (allQ_nil _ _).mono ?_
  rintro e w6 ⟨rfl, h6⟩
  have H6 := Lib.hid (H5.out.trans (h6.mono H5.out.size))
  clear h6
  go_wp2_with fail
  refine (allS_nil _).mono ?_
  rintro e w7 ⟨rfl, h7⟩
  have H7 := Lib.hid (H6.out.trans (h7.mono H6.out.size))
  clear h7
  go_wp2_with fail
  refine (price_nil _ _ _).mono ?_
  rintro e w8 ⟨rfl, h8⟩
  have H8 := Lib.hid (H7.out.trans (h8.mono H7.out.size))
  clear h8
  go_wp2_with fail
  refine (limit_nil _ _ _).mono ?_
  rintro e w9 ⟨rfl, h9⟩
  have H9 := Lib.hid (H8.out.trans (h9.mono H8.out.size))
  clear h9
  go_wp2_with fail
  refine (addP_nil _ _).mono ?_
  rintro e w10 ⟨rfl, h10⟩
  have H10 := Lib.hid ((H9.out.alloc H9.out.size _).trans (h10.mono (H9.out.alloc H9.out.size _).size))
  clear h10
  go_wp2_with fail
  refine (addQ_nil _ _).mono ?_
  rintro e w11 ⟨rfl, h11⟩
  have H11 := Lib.hid ((H10.out.alloc H10.out.size _).trans (h11.mono (H10.out.alloc H10.out.size _).size))
  clear h11
  go_wp2_with fail
  refine (addS_nil _ _).mono ?_
  rintro e w12 ⟨rfl, h12⟩
  have H12 := Lib.hid ((H11.out.alloc H11.out.size _).trans (h12.mono (H11.out.alloc H11.out.size _).size))
  clear h12
  go_wp2
  go_ret
  exact ⟨rfl, H12.out⟩

end Go.Proofs.Ytohlmegbndgedaa
