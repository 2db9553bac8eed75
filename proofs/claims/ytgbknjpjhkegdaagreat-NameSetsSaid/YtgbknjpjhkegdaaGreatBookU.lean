/-
  The Book: marks of texts.
-/
import Derived.Test.YtgbknjpjhkegdaaGreatBookT
import Derived.Maps.AppendAt
import Derived.Deep.AppendLies
import Derived.OwnWalk
namespace Go.Proofs.YtgbknjpjhkegdaaGreat
open Go.RowKit Go.Maps Go.WideMaps

theorem ownT_base {w : World} {base e size n : Nat} {v : Value} {xs : List Value} (h : w.ownsRow base e size v n xs) : ∀ k', v.ownBlock = some k' → base ≤ k' := fun k' hk' => by
  rcases h.2 with ⟨rfl, _⟩ | ⟨g, cap, cur, rfl, hbg, _⟩
  · exact absurd hk' (by simp [Value.ownBlock])
  · have : g = k' := by simpa [Value.ownBlock] using hk'
    omega
theorem wpListT_append_run {P : Program} {w w' : World} {ops : Array Oper} {rest : List Oper} {o : Oper} {a : Act} {Q : Exit → Act → World → Prop} (hgd : o.guard = none) (s x : Operand) (t : TypeId) (v u v' : Value)
    (ho : o.op = .call { callee := .builtin .append, args := #[s, x], argTypes := #[t, t] }) (hs : a.eval s = v) (hx : a.eval x = u)
    (hrun : (Builtin.append_ #[t, t] o.type #[v, u]).run P w = .ok v' w') (h : wpList P ops Q rest (a.put o.dst v') w') : wpList P ops Q (o :: rest) a w := by
  refine wpList_plain hgd fun K hK => ?_
  unfold Oper.wp execOp
  simp only [ho, resolve, invoke, builtin, Sem.run_bind, Sem.run_pure, Result.andThen_ok, List.map_toArray, List.map_cons, List.map_nil, hs, hx, hrun]
  exact hK _ _ h

theorem ownsRow_below {w w' : World} {base : Nat} {e : TypeId} {size : Nat} {v : Value} {n : Nat} {xs : List Value} (h : w.ownsRow base e size v n xs) (hb : Below w.heap.size w w') : w'.ownsRow base e size v n xs := by
  refine ⟨h.1, ?_⟩
  rcases h.2 with h | ⟨g, cap, cur, h1, h2, h3, h4⟩
  · exact .inl h
  · exact .inr ⟨g, cap, cur, h1, h2, (hb.block g (Array.getElem?_eq_some_iff.1 h3).1).trans h3, h4⟩

/-- An own row of texts. -/
def OwnT (w : World) (base : Nat) (v : Value) (ss : List ByteArray) : Prop := w.ownsRow base 9 1 v ss.length (ss.map Value.string)
theorem infoT : (Tryz.prog.info? 9).map (fun i => (i.zero, i.size, i.bytes)) = some (some (.string ByteArray.empty), 1, 16) := by kernel_rfl

theorem appendT {w : World} {base : Nat} {v : Value} {ss : List ByteArray} (hown : OwnT w base v ss) (s : ByteArray) (g : Nat) (t : TypeId) (hg : w.heap[g]? = some (.cells #[.string s] t (0, 0)))
    (hl : ss.length ≤ 1000000) (hb : base ≤ w.heap.size) (ty : TypeId) :
    ∃ v' w', (Builtin.append_ #[22, 22] ty #[v, .slice (some ⟨g, 0, none⟩) 1 1]).run Tryz.prog w = .ok v' w' ∧ OwnT w' base v' (ss ++ [s]) ∧ Below base w w' := by
  obtain ⟨i0, hi, hz0, hz1, hz2⟩ := info_parts infoT
  obtain ⟨v', w', h1, h2, h3, _, _⟩ := run_append_own_at (P := Tryz.prog) w base 22 ty 9 i0 (.string ByteArray.empty) 1 16 Tryz.underlying22 hi hz0 hz1 hz2 rfl (by decide) v ss.length (ss.map Value.string) hown ⟨g, 0, none⟩ 1 1 [.string s] rfl
    (World.news_of_block hg) (fun u hu => by simp at hu; rw [hu]; rfl) (by unfold maxLen; omega) (by omega) hb
  refine ⟨v', w', h1, ?_, (Below.refl _ _).grown h3 hb (ownT_base hown)⟩
  unfold OwnT
  rw [List.length_append, List.map_append]
  exact h2

/-- The marks of list i, from f on, n of them. -/
def marksT (i f n : Nat) : List ByteArray := (List.range n).map fun j => bname i (f + j)
theorem marksT_succ (i f n : Nat) : marksT i f (n + 1) = marksT i f n ++ [bname i (f + n)] := by rw [marksT, List.range_succ, List.map_append]; rfl
theorem marksT_len (i f n : Nat) : (marksT i f n).length = n := by rw [marksT, List.length_map, List.length_range]

set_option maxHeartbeats 1600000 in
theorem markT_any (i f n : Nat) (w : World) (hi : i ≤ 1000) (hf : f ≤ 400000) (hn : n ≤ 400000) :
    Calls Tryz.prog 122 #[.int .i64 i, .int .i64 f, .int .i64 n] w fun e w' => ∃ v, e = .returned v ∧ OwnT w' w.heap.size v (marksT i f n) ∧ Below w.heap.size w w' := by
  have HBN := Lib.hid (fun k hk W => bname_any i k W hi hk)
  go_enter Tryz.func122, Tryz.ntmps122
  go_wp2_with fail
  go_loopw [7, 8] (fun o j wr => ∃ (m : Nat) (x : Value), x = o ∧ j = .int .i64 ((f + m : Nat) : Int) ∧ m ≤ n ∧ Hid (OwnT wr w.heap.size x (marksT i f m)) ∧ Below w.heap.size w wr) (fun _ j _ => ((f : Int) + n - RowKit.intOf j).toNat)
  case atStart => exact ⟨0, _, rfl, rfl, Nat.zero_le _, Lib.hid (World.ownsRow_nil _ _ _ _), Below.refl _ _⟩
  case round =>
    obtain ⟨m, x, rfl, rfl, hm, HO, hbw⟩ := hrel
    have HB := Lib.hid hbw
    obtain ⟨p, hp⟩ : ∃ p, p = f + m := ⟨_, rfl⟩
    rw [← hp]
    by_cases hlt : m < n
    · have hltz : (p : Int) < (f : Int) + (n : Int) := by omega
      have hcall := HBN.out p (by omega)
      have HP := Lib.hid hp
      have hpb : p ≤ 800000 := by omega
      clear hbw hp
      go_wp2_with fail
      refine (hcall _).mono ?_
      rintro e w1 ⟨rfl, hb1⟩
      have hb2 := HB.out.trans (hb1.mono HB.out.size)
      have ho1 : OwnT w1 w.heap.size x (marksT i f m) := ownsRow_below HO.out hb1
      obtain ⟨v', w5, hrun, ho5, hb5⟩ := appendT (World.ownsRow.alloc ho1 (.cells #[.string (bname i p)] 9)) (bname i p) w1.heap.size 9 (heap_alloc_new _ _) (by rw [marksT_len]; omega) (by have := hb2.size; simp; omega) 22
      rw [HP.out, ← marksT_succ] at ho5
      have HR := Lib.hid hrun
      have HO5 := Lib.hid (show OwnT w5 w.heap.size v' (marksT i f (m + 1)) from ho5)
      have HB5 := Lib.hid ((hb2.alloc hb2.size (.cells #[.string (bname i p)] 9)).trans hb5)
      have HPP := Lib.hid (show ((p : Int) + 1) = ((f + (m + 1) : Nat) : Int) by rw [HP.out]; omega)
      clear hb1 hb2 ho1 hrun ho5 hb5
      go_wp2_with (at_builtin; refine wpListT_append_run rfl _ _ _ _ _ _ rfl rfl rfl HR.out ?_)
      go_roundw
      case rel => exact ⟨m + 1, _, rfl, by rw [HPP.out], by omega, HO5, HB5.out⟩
      case measure => simp [RowKit.intOf]; omega
    · obtain rfl : m = n := by omega
      have hltz : ¬ (p : Int) < (f : Int) + (m : Int) := by omega
      clear hbw
      go_wp2
      go_ret
      exact ⟨_, rfl, HO.out, HB.out⟩

end Go.Proofs.YtgbknjpjhkegdaaGreat
