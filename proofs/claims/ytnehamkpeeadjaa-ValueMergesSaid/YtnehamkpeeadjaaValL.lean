/-
  value: Pick.
-/
import Derived.Test.YtnehamkpeeadjaaValK
import Derived.Maps.AppendAt
import Derived.Deep.AppendLies
namespace Go.Proofs.Ytnehamkpeeadjaa
open Go.RowKit

theorem much_any (lack : Int) (x : Stk) (w : World) (hx : x.wf) (h0 : i64 lack) :
    Calls Try.prog 14 #[.int .i64 lack, .agg #[.string x.name, .bool x.cash, .bool x.pledge, .int .i64 x.unit, .int .i64 x.least, .int .i64 x.price, .int .i64 x.cut, .int .i64 x.close, .int .i64 x.qty]] w fun e w' =>
      e = .returned (.tuple #[.int .i64 (muchF lack x).1, .int .i64 (muchF lack x).2]) ∧ Below w.heap.size w w' := by
  obtain ⟨nm, ca, pl, un, le, pr, cu, cl, qt⟩ := x
  cases h : okB ⟨nm, ca, pl, un, le, pr, cu, cl, qt⟩ with
  | false =>
    have e : muchF lack ⟨nm, ca, pl, un, le, pr, cu, cl, qt⟩ = (0, 0) := by rw [muchF, if_pos h]
    rw [e]
    exact much_not lack nm ca pl un le pr cu cl qt w h
  | true => exact much_yes lack nm ca pl un le pr cu cl qt w h hx h0

theorem own_below {W W' : World} {B e size n : Nat} {v : Value} {xs : List Value} (h : W.ownsRow B e size v n xs) (hb : Below W.heap.size W W') : W'.ownsRow B e size v n xs := by
  rcases h with ⟨h0, h1 | ⟨g, cap, cur, h2, h3, h4, h5⟩⟩
  · exact ⟨h0, .inl h1⟩
  · exact ⟨h0, .inr ⟨g, cap, cur, h2, h3, by rw [hb.block g (Array.getElem?_eq_some_iff.1 h4).1]; exact h4, h5⟩⟩

/-- The cells of pledges. -/
def plCells (ps : List (ByteArray × Int)) : List Value := ps.flatMap fun p => [.string p.1, .int .i64 p.2]
theorem plCells_snoc (ps : List (ByteArray × Int)) (p : ByteArray × Int) : plCells (ps ++ [p]) = plCells ps ++ [.string p.1, .int .i64 p.2] := by simp [plCells]
theorem plCells_length (ps : List (ByteArray × Int)) : (plCells ps).length = ps.length * 2 := by
  induction ps with
  | nil => rfl
  | cons p r ih => rw [plCells, List.flatMap_cons, List.length_append, ← plCells, ih, List.length_cons]; simp; omega

/-- The value owns a row of pledges. -/
def OwnPl (w : World) (base : Nat) (v : Value) (ps : List (ByteArray × Int)) : Prop := w.ownsRow base 36 2 v ps.length (plCells ps)

/-- What Pick tells. -/
def PickIs (want : Int) (xs : List Stk) (base : Nat) (w : World) (v : Value) (k : Int) : Prop :=
  (want < 0 ∧ v = .slice none 0 0 ∧ k = 1) ∨ (0 ≤ want ∧ 0 < (pickF want xs).2 ∧ v = .slice none 0 0 ∧ k = 32) ∨
  (0 ≤ want ∧ (pickF want xs).2 ≤ 0 ∧ OwnPl w base v (pickF want xs).1 ∧ k = 0)

def PickPost (want : Int) (xs : List Stk) (w : World) (e : Ending) (w' : World) : Prop :=
  Below w.heap.size w w' ∧ ∃ v k, e = .returned (.tuple #[v, .int .i64 k]) ∧ PickIs want xs w.heap.size w' v k

theorem infoP : (Try.prog.info? 36).map (fun i => (i.zero, i.size, i.bytes)) = some (some (.agg #[.string ByteArray.empty, .int .i64 0]), 2, 24) := by kernel_rfl

theorem cell_two_new (w : World) (x y : Value) (t : TypeId) : ∀ j u, [x, y][j]? = some u → (w.alloc (.cells #[x, y] t)).cell? ((⟨w.heap.size, 0, none⟩ : Addr).add j) = some u := by
  intro j u hj
  match j, hj with
  | 0, hj => simp at hj; subst hj; simp [Addr.add]
  | 1, hj => simp at hj; subst hj; simp [Addr.add]

theorem stk_cells {w : World} {a : Option Addr} {xs : List Stk} {k : Nat} (h : xs = [] ∨ ∃ b off, a = some ⟨b, off, none⟩ ∧ b < w.heap.size ∧ ∀ i j, i < xs.length → j < 9 → w.cell? ⟨b, off + i * 9 + j, none⟩ = (xs.getD i stk0).cells[j]?) (hk : k < xs.length) :
    ∃ b off, a = some ⟨b, off, none⟩ ∧ b < w.heap.size ∧ w.cell? ⟨b, off + k * 9, none⟩ = some (.string (xs.getD k stk0).name) ∧ w.cell? ⟨b, off + k * 9 + 1, none⟩ = some (.bool (xs.getD k stk0).cash) ∧
      w.cell? ⟨b, off + k * 9 + 2, none⟩ = some (.bool (xs.getD k stk0).pledge) ∧ w.cell? ⟨b, off + k * 9 + 3, none⟩ = some (.int .i64 (xs.getD k stk0).unit) ∧ w.cell? ⟨b, off + k * 9 + 4, none⟩ = some (.int .i64 (xs.getD k stk0).least) ∧
      w.cell? ⟨b, off + k * 9 + 5, none⟩ = some (.int .i64 (xs.getD k stk0).price) ∧ w.cell? ⟨b, off + k * 9 + 6, none⟩ = some (.int .i64 (xs.getD k stk0).cut) ∧ w.cell? ⟨b, off + k * 9 + 7, none⟩ = some (.int .i64 (xs.getD k stk0).close) ∧
      w.cell? ⟨b, off + k * 9 + 8, none⟩ = some (.int .i64 (xs.getD k stk0).qty) := by
  rcases h with h | ⟨b, off, e, hb, hc⟩
  · rw [h] at hk; simp at hk
  · exact ⟨b, off, e, hb, hc k 0 hk (by omega), hc k 1 hk (by omega), hc k 2 hk (by omega), hc k 3 hk (by omega), hc k 4 hk (by omega), hc k 5 hk (by omega), hc k 6 hk (by omega), hc k 7 hk (by omega), hc k 8 hk (by omega)⟩

theorem pick_next {want lack : Int} {xs : List Stk} {k : Nat} {ps : List (ByteArray × Int)} (hk : k < xs.length) (hl : 0 < lack) (h : pickF want xs = (ps ++ (pickF lack (xs.drop k)).1, (pickF lack (xs.drop k)).2)) :
    pickF want xs = ((ps ++ if 0 < (muchF lack (xs.getD k stk0)).1 then [((xs.getD k stk0).name, (muchF lack (xs.getD k stk0)).1)] else []) ++ (pickF (lack - (muchF lack (xs.getD k stk0)).2) (xs.drop (k + 1))).1, (pickF (lack - (muchF lack (xs.getD k stk0)).2) (xs.drop (k + 1))).2) := by
  rw [drop_cons hk stk0, pickF, if_neg (by omega)] at h
  rw [h, List.append_assoc]

set_option maxHeartbeats 1600000 in
theorem pick_any (want : Int) (v : Value) (xs : List Stk) (w : World) (hv : StocksAt w v xs) (hw : i64 want) :
    Calls Try.prog 8 #[.int .i64 want, v] w (PickPost want xs w) := by
  obtain ⟨a, c, rfl, hlen, hwf, hcs⟩ := hv
  obtain ⟨n, hn⟩ : ∃ n, n = xs.length := ⟨_, rfl⟩
  rw [← hn] at hlen ⊢
  have HN := Lib.hid hn
  have HX := Lib.hid hcs
  have HW := Lib.hid hwf
  clear hn hcs hwf
  obtain ⟨i0, hi, hz0, hz1, hz2⟩ := info_parts infoP
  by_cases hneg : want < 0
  · have HG := Lib.hid hneg
    go_enter Try.func8, Try.ntmps8
    go_wp2
    go_ret2
    exact ⟨Below.refl _ _, _, 1, rfl, .inl ⟨HG.out, rfl, rfl⟩⟩
  have HG := Lib.hid (show 0 ≤ want by omega)
  have HI := Lib.hid hw
  clear hw
  go_enter Try.func8, Try.ntmps8
  go_wp2
  go_loopw [6, 7, 17] (fun o l i wr => ∃ (k : Nat) (lack : Int) (x : Value) (ps : List (ByteArray × Int)), x = o ∧ l = .int .i64 lack ∧ i = .int .i64 k ∧ k ≤ n ∧ Hid (i64 lack) ∧ ps.length ≤ k ∧
    Hid (pickF want xs = (ps ++ (pickF lack (xs.drop k)).1, (pickF lack (xs.drop k)).2)) ∧ Hid (OwnPl wr w.heap.size x ps) ∧ Below w.heap.size w wr) (fun _ _ i _ => (n - RowKit.intOf i).toNat)
  case atStart => exact ⟨0, want, _, [], rfl, rfl, rfl, Nat.zero_le _, HI, by simp, Lib.hid rfl, Lib.hid (World.ownsRow_nil _ _ _ _), Below.refl _ _⟩
  case round =>
    obtain ⟨k, lack, x, ps, rfl, rfl, rfl, hk, HL, hpk, HP, HO, hbw⟩ := hrel
    have HB := Lib.hid hbw
    have FIN : lack ≤ 0 ∨ k = n → (lack ≤ 0 → PickIs want xs w.heap.size wr x 0) ∧ (0 < lack → PickIs want xs w.heap.size wr (.slice none 0 0) 32) := by
      intro hh
      have e2 : pickF lack (xs.drop k) = ([], lack) := by
        rcases hh with hh | hh
        · exact pick_done hh _
        · rw [List.drop_eq_nil_of_le (by rw [← HN.out]; omega)]; rfl
      have hp := HP.out
      rw [e2, List.append_nil] at hp
      constructor
      · intro hl
        refine .inr (.inr ⟨HG.out, by rw [hp]; exact hl, ?_, rfl⟩)
        rw [hp]; exact HO.out
      · intro hl
        exact .inr (.inl ⟨HG.out, by rw [hp]; exact hl, rfl, rfl⟩)
    have HF := Lib.hid FIN
    clear FIN
    by_cases hlt : k < n
    · have hltz : (k : Int) < (n : Int) := by omega
      obtain ⟨b, off, rfl, hbl, c0, c1, c2, c3, c4, c5, c6, c7, c8⟩ := stk_cells HX.out (k := k) (by rw [← HN.out]; exact hlt)
      have hwfx := HW.out (xs.getD k stk0) (by
        have h2 : k < xs.length := by rw [← HN.out]; exact hlt
        rw [show xs.getD k stk0 = xs[k] by simp [List.getD, h2]]; exact List.getElem_mem h2)
      have HK := Lib.hid (fun hl => pick_next (by rw [← HN.out]; exact hlt) hl HP.out)
      obtain ⟨s, hs⟩ : ∃ s, s = xs.getD k stk0 := ⟨_, rfl⟩
      rw [← hs] at c0 c1 c2 c3 c4 c5 c6 c7 c8 hwfx HK
      clear hs
      have HWX := Lib.hid hwfx
      clear hwfx
      rw [← hbw.cell (p := ⟨b, _, none⟩) hbl] at c0 c1 c2 c3 c4 c5 c6 c7 c8
      by_cases hlk : lack ≤ 0
      · have hl2 : decide (lack ≤ 0) = true := by simpa using hlk
        have hl3 : decide (0 < lack) = false := by simp; omega
        go_wp2
        go_ret2
        exact ⟨(HB.out.alloc HB.out.size _), _, 0, rfl, by
          have := (HF.out (.inl hlk)).1 hlk
          rcases this with h | h | ⟨h1, h2, h3, h4⟩
          · exact .inl h
          · exact .inr (.inl h)
          · exact .inr (.inr ⟨h1, h2, World.ownsRow.alloc h3 _, h4⟩)⟩
      · have hl2 : decide (lack ≤ 0) = false := by simpa using hlk
        have HLP := Lib.hid (show 0 < lack by omega)
        have hmb := much_bd lack s
        have HM := Lib.hid (fun W => much_any lack s W HWX.out HL.out)
        have HPN := Lib.hid (HK.out HLP.out)
        have hnil0 := much_nil lack s
        obtain ⟨r, hr⟩ : ∃ r, r = muchF lack s := ⟨_, rfl⟩
        rw [← hr] at hmb HM HPN hnil0
        have HNIL := Lib.hid hnil0
        clear hnil0
        clear hr HK
        obtain ⟨r1, r2⟩ := r
        simp only at hmb
        obtain ⟨m1, m2, m3⟩ := hmb
        have hli := HL.out
        unfold i64 at hli
        have HSUB := Lib.hid (show wrap64 (lack - r2) = lack - r2 ∧ i64 (lack - r2) from ⟨IntWalk.wrap64_in _ (by omega), by unfold i64; omega⟩)
        clear hlk hli m2 m3
        go_wp2_with fail
        refine (HM.out _).mono ?_
        rintro e w2 ⟨rfl, hb2⟩
        have d0 : w2.cell? ⟨wr.heap.size, 0, none⟩ = some (.string s.name) := by rw [hb2.cell (p := ⟨wr.heap.size, 0, none⟩) (by simp)]; simp
        have hbw2 : Below w.heap.size w w2 := (HB.out.alloc HB.out.size _).trans (hb2.mono (by have := HB.out.size; simp; omega))
        have hown : OwnPl w2 w.heap.size x ps := own_below (World.ownsRow.alloc HO.out _) hb2
        have hsz := hbw2.size
        clear hb2 c0 c1 c2 c3 c4 c5 c6 c7 c8
        by_cases hr1 : 0 < r1
        · have hob : ∀ k', x.ownBlock = some k' → w.heap.size ≤ k' := fun k' hk' => by
            rcases hown.2 with ⟨rfl, _⟩ | ⟨g, cap, cur, rfl, hbg, _⟩
            · exact absurd hk' (by simp [Value.ownBlock])
            · have : g = k' := by simpa [Value.ownBlock] using hk'
              omega
          have HPS := Lib.hid (plCells_snoc ps (s.name, r1))
          obtain ⟨cs, hcs⟩ : ∃ cs, cs = plCells ps := ⟨_, rfl⟩
          obtain ⟨z, hz⟩ : ∃ z, z = ps.length := ⟨_, rfl⟩
          unfold OwnPl at hown
          rw [← hcs, ← hz] at hown
          rw [← hcs] at HPS
          rw [← hz] at hpk
          have HZ := Lib.hid hz
          have HB2 := Lib.hid hbw2
          clear hcs hz hbw2
          go_wp2_with (at_builtin; refine wpList_append_own_at _ rfl _ _ 28 rfl w.heap.size 36 i0 (.agg #[.string ByteArray.empty, .int .i64 0]) 2 24 Try.underlying28 hi hz0 hz1 hz2 rfl (by decide) _ _ _ rfl (hown.alloc _) ⟨w2.heap.size, 0, none⟩ 1 1 [.string s.name, .int .i64 r1] rfl rfl (cell_two_new _ _ _ _) (fun x hx => by simp at hx; rcases hx with rfl | rfl <;> rfl) (by unfold maxLen; omega) (by omega) (by simp; omega) ?_; intro v' w5 hown' hgrow hnil hloc)
          have hbw5 : Below w.heap.size w w5 := (HB2.out.alloc hsz _).grown hgrow (by simp; omega) (fun k' hk' => hob k' hk')
          have hrow : OwnPl w5 w.heap.size v' (ps ++ [(s.name, r1)]) := by
            unfold OwnPl
            rw [List.length_append, ← HZ.out, HPS.out]
            exact hown'
          have HR := Lib.hid hrow
          have hn2 := HPN.out
          rw [if_pos hr1] at hn2
          have HN2 := Lib.hid hn2
          clear hrow hown' hgrow hnil hloc hown hob hn2
          go_wp2
          go_roundw
          case rel => exact ⟨k + 1, lack - r2, _, _, rfl, congrArg (Value.int .i64) HSUB.out.1, by go_num, by omega, Lib.hid HSUB.out.2, by rw [List.length_append, ← HZ.out]; simp; omega, HN2, HR, hbw5⟩
          case measure => simp [RowKit.intOf]; omega
        · have HOW := Lib.hid hown
          have hn2 := HPN.out
          rw [if_neg hr1, List.append_nil] at hn2
          have e0 := HNIL.out (Int.not_lt.1 hr1)
          simp only [Prod.mk.injEq] at e0
          rw [e0.2, Int.sub_zero] at hn2
          have HN2 := Lib.hid hn2
          have hr2 : decide (0 < r1) = false := by simpa using hr1
          clear hown hn2 hr1 e0
          go_wp2
          go_roundw
          case rel => exact ⟨k + 1, lack, _, _, rfl, rfl, by go_num, by omega, HL, by omega, HN2, HOW, hbw2⟩
          case measure => simp [RowKit.intOf]; omega
    · have hltz : ¬ (k : Int) < (n : Int) := by omega
      have hkn : k = n := by omega
      have hf := HF.out (.inr hkn)
      clear hkn
      by_cases hlk : 0 < lack
      · have HFF := Lib.hid (hf.2 hlk)
        clear hf
        go_wp2
        go_ret2
        exact ⟨HB.out, _, 32, rfl, HFF.out⟩
      · have HFF := Lib.hid (hf.1 (by omega))
        have hl3 : decide (0 < lack) = false := by simpa using hlk
        clear hf hlk
        go_wp2
        go_ret2
        exact ⟨HB.out, _, 0, rfl, HFF.out⟩

end Go.Proofs.Ytnehamkpeeadjaa
