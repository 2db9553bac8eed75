/-
  The Book: lists of texts are grown.
-/
import Derived.Test.YtgbknjpjhkegdaaGreatTxC
namespace Go.Proofs.YtgbknjpjhkegdaaGreat
open Go.RowKit Go.Maps Go.WideMaps
set_option linter.unusedVariables false

abbrev GrowT (base bk : Nat) := Growing csT 9 1 22 base bk
abbrev Grow1T (base bk : Nat) := Grows1 csT 9 1 22 base bk

/-- A list at hand that holds its marks. -/
structure HandT (base bk : Nat) (w0 : World) (tv : Value) (L : List (Value × List ByteArray)) (w : World) (ov : Value) (O : List (Value × List ByteArray)) (y : Value × List ByteArray) (H j : Nat) (l : Value) (n : Nat) : Prop where
  g : Grow1T base bk w0 tv L w ov O y H l (marksG bname j 0 n)
  j : O.length = j
  H : H ≤ w.heap.size

theorem HandT.form {base bk : Nat} {w0 w : World} {tv ov l : Value} {L O : List (Value × List ByteArray)} {y : Value × List ByteArray} {H j n : Nat} (h : HandT base bk w0 tv L w ov O y H j l n) : ∃ a c, l = .slice a n c := by
  have := own_form h.g.own
  rwa [marksG_len] at this

/-- More marks are appended. -/
theorem HandT.more {base bk : Nat} {w0 w w1 : World} {tv ov l mv : Value} {L O : List (Value × List ByteArray)} {y : Value × List ByteArray} {H j n m : Nat} (h : HandT base bk w0 tv L w ov O y H j l n) (hb : base ≤ bk) (hm : OwnT w1 w.heap.size mv (marksT j n m)) (hbe : Below w.heap.size w w1) (hm0 : 0 < m) (hs : n + m ≤ 1000000) :
    ∃ a c am cm w2, mv = .slice am m cm ∧ (Builtin.append_ #[22, 22] 22 #[l, .slice am m cm]).run Tryz.prog w1 = .ok (.slice a (n + m) c) w2 ∧ HandT base bk w0 tv L w2 ov O y H j (.slice a (n + m) c) (n + m) := by
  obtain ⟨i0, hi, hz0, hz1, hz2⟩ := info_parts infoT
  have hg := h.g.below hbe
  have hml : (marksT j n m).length = m := marksT_len j n m
  obtain ⟨l', w2, h1, h2, h3⟩ := hg.append (P := Tryz.prog) (t := 22) (ty := 22) (by decide) Tryz.underlying22 hi hz0 hz1 hz2 rfl (by decide) oneT (m := mv) (ms := marksT j n m) ⟨_, ownT_flat.1 hm⟩ (by omega) (by rw [marksG_len, hml]; omega) (by decide) hb (by have := hbe.size; have := h.H; omega)
  rw [marksT_eq, marksG_app] at h2
  obtain ⟨am, cm, rfl⟩ : ∃ a c, mv = .slice a m c := by
    obtain ⟨a, c, e⟩ := own_form hm
    rw [hml] at e
    exact ⟨a, c, e⟩
  have hH : HandT base bk w0 tv L w2 ov O y H j l' (n + m) := ⟨h2, h.j, by have := hbe.size; have := h.H; omega⟩
  obtain ⟨a, c, rfl⟩ := hH.form
  exact ⟨a, c, am, cm, w2, rfl, h1, hH⟩

set_option maxRecDepth 100000 in
/-- The list at hand joins the others. -/
theorem HandT.join {base bk : Nat} {w0 w : World} {tv ov l : Value} {L O : List (Value × List ByteArray)} {y : Value × List ByteArray} {H j n : Nat} (h : HandT base bk w0 tv L w ov O y H j l n) (hb : base ≤ bk) (hj : j < 1000) (hmb : MarkedBelow bname O j) (hl : ∀ x ∈ O, x.2.length ≤ 400000) (hn : n ≤ 400000) :
    ∃ a c w2, (Builtin.append_ #[26, 26] 26 #[ov, .slice (some ⟨w.heap.size, 0, none⟩) 1 1]).run Tryz.prog (w.alloc (.cells #[l] 22)) = .ok (.slice a (j + 1) c) w2 ∧
      ∃ O', GrowT base bk w0 tv L w2 (.slice a (j + 1) c) O' ∧ O'.length = j + 1 ∧ MarkedBelow bname O' (j + 1) ∧ ∀ x ∈ O', x.2.length ≤ 400000 := by
  obtain ⟨ov', w2, h1, h2⟩ := h.g.join headsT (by decide) (by have := h.j; omega) hb h.H 26
  obtain ⟨a, c, e⟩ := own_form h2.new.row
  have hl' : (O ++ [(l, marksG bname j 0 n)]).length = j + 1 := by rw [List.length_append, h.j]; rfl
  rw [hl'] at e
  subst e
  refine ⟨a, c, w2, h1, _, h2, hl', fun i x hi hx => ?_, fun x hx => ?_⟩
  · rcases Nat.lt_or_ge i j with hij | hij
    · rw [List.getElem?_append_left (by rw [h.j]; exact hij)] at hx
      exact hmb i x hij hx
    · obtain rfl : i = j := by omega
      rw [List.getElem?_append_right (by rw [h.j]; exact Nat.le_refl _), h.j, Nat.sub_self] at hx
      injection hx with hx
      subst hx
      show marksG bname i 0 n = marksG bname i 0 (marksG bname i 0 n).length
      rw [marksG_len]
  · rcases List.mem_append.1 hx with hx | hx
    · exact hl x hx
    · obtain rfl := List.mem_singleton.1 hx
      show (marksG bname j 0 n).length ≤ 400000
      rw [marksG_len]
      exact hn

/-- The next list comes to hand. -/
theorem handT_first {base bk : Nat} {w0 w : World} {tv ov : Value} {L O : List (Value × List ByteArray)} {j : Nat} (h : GrowT base bk w0 tv L w ov O) (hj : O.length = j) (hjl : j < L.length) (hm : MarkedBelow bname L L.length) :
    ∃ g cap y l n, tv = .slice (some ⟨g, 0, none⟩) L.length cap ∧ L.length ≤ cap ∧ w.cell? ⟨g, j, none⟩ = some l ∧ y ∈ L ∧ y.2.length = n ∧ HandT base bk w0 tv L w ov O y w.heap.size j l n := by
  obtain ⟨g, cap, e1, h1, _, _, _, h3⟩ := h.old.head (by omega)
  have hy : L[j]? = some L[j] := List.getElem?_eq_getElem hjl
  refine ⟨g, cap, L[j], L[j].1, _, e1, h1, h3 j _ hy, List.getElem_mem hjl, rfl, ⟨?_, hj, Nat.le_refl _⟩⟩
  have := h.first (y := L[j]) (by rw [hj]; exact hy)
  have he := hm j _ hjl hy
  rw [← he]
  exact this

theorem GrowT.cell0 {base bk : Nat} {w0 w : World} {tv ov : Value} {L O : List (Value × List ByteArray)} (h : GrowT base bk w0 tv L w ov O) (j : Nat) : w.cell? ⟨bk, j, none⟩ = w0.cell? ⟨bk, j, none⟩ :=
  h.turned.cell (p := ⟨bk, j, none⟩) h.bklt fun ⟨x, hx, e⟩ => h.old.far' x hx e

set_option maxRecDepth 100000 in
set_option maxHeartbeats 1600000 in
theorem growT_any (base bk : Nat) (L : List (Value × List ByteArray)) (tv : Value) (w : World) (hk : Lists csT 9 1 22 base bk w tv L) (hb : base ≤ bk) (hc0 : w.cell? ⟨bk, 0, none⟩ = some tv) (hn : L.length ≤ 900) (hl : ∀ x ∈ L, x.2.length ≤ 300000) (hm : MarkedBelow bname L L.length) :
    Calls Tryz.prog 63 #[.pointer (some ⟨bk, 0, none⟩)] w fun e w' => ∃ ov, e = .returned ov ∧ ∃ O, GrowT base bk w tv L w' ov O ∧ O.length = L.length ∧ MarkedBelow bname O O.length ∧ ∀ x ∈ O, x.2.length ≤ 400000 := by
  have hbk : bk < w.heap.size := World.block_lt_of_cell? w ⟨bk, 0, none⟩ hc0
  have HK := Lib.hid hk
  have HLL := Lib.hid hl
  have HMB := Lib.hid hm
  obtain ⟨an, cn, hform⟩ := own_form hk.row
  obtain ⟨n, hN⟩ : ∃ n, n = L.length := ⟨_, rfl⟩
  rw [← hN] at hform hn ⊢
  have HN := Lib.hid hN
  clear hk hl hN hm
  subst hform
  go_enter Tryz.func63, Tryz.ntmps63
  go_wp2
  go_loopw [3, 4] (fun o i wr => ∃ (j : Nat) (O : List (Value × List ByteArray)) (ao : Option Addr) (co : Nat), o = .slice ao j co ∧ i = .int .i64 j ∧ j ≤ n ∧ Hid (GrowT base bk w (.slice an n cn) L wr (.slice ao j co) O ∧ O.length = j ∧ MarkedBelow bname O j ∧ ∀ x ∈ O, x.2.length ≤ 400000)) (fun _ i _ => (n - RowKit.intOf i).toNat)
  case atStart => exact ⟨0, [], none, 0, rfl, rfl, Nat.zero_le _, Lib.hid ⟨Growing.start HK.out hbk, rfl, fun i x hi => absurd hi (Nat.not_lt_zero _), by simp⟩⟩
  case round =>
    obtain ⟨j, O, ao, co, rfl, rfl, hj, HG⟩ := hrel
    have d0 := (HG.out.1.cell0 0).trans hc0
    by_cases hlt : j < n
    · have hltz : (j : Int) < (n : Int) := by omega
      have hj0 : (0 : Int) ≤ (j : Int) := by omega
      obtain ⟨g, cap, y, l, m, e1, hcap, x0, hy, hyl, hh⟩ := handT_first HG.out.1 HG.out.2.1 (by rw [← HN.out]; exact hlt) HMB.out
      have hm3 : m ≤ 300000 := by rw [← hyl]; exact HLL.out y hy
      rw [← HN.out] at e1 hcap
      injection e1 with e1 _ e3
      subst e1 e3
      have HH := Lib.hid hh
      have HO := Lib.hid HG.out.2
      obtain ⟨al, cl, rfl⟩ := hh.form
      obtain ⟨H, hH⟩ : ∃ H, H = wr.heap.size := ⟨_, rfl⟩
      rw [← hH] at HH
      clear hyl hh HG hH hy
      go_wp2_with fail
      go_loopw [5, 6] (fun v q wr => ∃ (k : Nat) (a : Option Addr) (c : Nat), v = .slice a (m + k) c ∧ q = .int .i64 k ∧ k ≤ 12 ∧ Hid (HandT base bk w (.slice (some ⟨g, 0, none⟩) n cn) L wr (.slice ao j co) O y H j (.slice a (m + k) c) (m + k))) (fun _ q _ => ((12 : Int) - RowKit.intOf q).toNat)
      case atStart => exact ⟨0, al, cl, rfl, rfl, Nat.zero_le _, HH⟩
      case round =>
        obtain ⟨k, a, c, rfl, rfl, hk, HH2⟩ := hrel
        by_cases hk12 : k < 12
        · have hkz : (k : Int) < 12 := by omega
          have HMK := Lib.hid (markT_any j (m + k) 1 wr (by omega) (by omega) (by omega))
          have HMO := Lib.hid (fun mv w1 hm hbe => HH2.out.more (mv := mv) (w1 := w1) (m := 1) hb hm hbe (by omega) (by omega))
          have HZ : ((1 : Nat) : Int) = 1 := rfl
          rw [HZ] at HMK
          obtain ⟨p, hp⟩ : ∃ p, p = m + k := ⟨_, rfl⟩
          have HP := Lib.hid hp
          rw [← hp] at HMK HMO ⊢
          clear HH hp
          go_wp2_with fail
          refine HMK.out.mono ?_
          rintro e w1 ⟨mv, rfl, hmv, hbm⟩
          obtain ⟨a2, c2, am, cm, w2, rfl, hr, hh2⟩ := HMO.out mv w1 hmv hbm
          have HR := Lib.hid hr
          have HH3 := Lib.hid hh2
          clear hr hh2 hmv hbm HMO HMK
          go_wp2_with (at_builtin; refine wpListT_append_run rfl _ _ _ (.slice a p c) (.slice am 1 cm) (.slice a2 (p + 1) c2) rfl rfl rfl HR.out ?_)
          go_roundw
          case rel => exact ⟨k + 1, a2, c2, by rw [HP.out]; rfl, by go_num, by omega, by rw [HP.out] at HH3; exact HH3⟩
          case measure => simp [RowKit.intOf]; omega
        · have hkz : ¬ (k : Int) < 12 := by omega
          obtain rfl : k = 12 := by omega
          have HMK := Lib.hid (markT_any j (m + 12) 60 wr (by omega) (by omega) (by omega))
          have HMO := Lib.hid (fun mv w1 hm hbe => HH2.out.more (mv := mv) (w1 := w1) (m := 60) hb hm hbe (by omega) (by omega))
          have HZ : ((60 : Nat) : Int) = 60 := rfl
          rw [HZ] at HMK
          obtain ⟨p, hp⟩ : ∃ p, p = m + 12 := ⟨_, rfl⟩
          have hp4 : p + 60 ≤ 400000 := by omega
          rw [← hp] at HMK HMO HH2 ⊢
          clear HH hp
          go_wp2_with fail
          refine HMK.out.mono ?_
          rintro e w1 ⟨mv, rfl, hmv, hbm⟩
          obtain ⟨a2, c2, am, cm, w2, rfl, hr, hh2⟩ := HMO.out mv w1 hmv hbm
          obtain ⟨a3, c3, w3, hr3, hO3⟩ := hh2.join hb (by omega) HO.out.2.1 HO.out.2.2 (by omega)
          have HR := Lib.hid hr
          have HR3 := Lib.hid hr3
          have HO3 := Lib.hid hO3
          clear hr hh2 hmv hbm HMO HMK hr3 hO3
          go_wp2_with (at_builtin; first
            | (refine wpListT_append_run rfl _ _ _ (.slice a p c) (.slice am 60 cm) (.slice a2 (p + 60) c2) rfl rfl rfl HR.out ?_)
            | (refine wpListT_append_run rfl _ _ _ (.slice ao j co) (.slice (some ⟨w2.heap.size, 0, none⟩) 1 1) (.slice a3 (j + 1) c3) rfl rfl rfl HR3.out ?_))
          go_roundw
          case rel =>
            obtain ⟨O', h1, h2, h3, h4⟩ := HO3.out
            exact ⟨j + 1, O', a3, c3, rfl, by go_num, by omega, Lib.hid ⟨h1, h2, h3, h4⟩⟩
          case measure => simp [RowKit.intOf]; omega
    · have hltz : ¬ (j : Int) < (n : Int) := by omega
      obtain rfl : j = n := by omega
      go_wp2
      go_ret
      exact ⟨_, rfl, O, HG.out.1, HG.out.2.1, by rw [HG.out.2.1]; exact HG.out.2.2.1, fun a b h => HG.out.2.2.2 (a, b) h⟩
end Go.Proofs.YtgbknjpjhkegdaaGreat
