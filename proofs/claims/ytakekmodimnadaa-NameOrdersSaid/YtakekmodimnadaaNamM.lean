/-
  The walk of NameOrders at its main road.
-/
import Derived.Test.YtakekmodimnadaaNamL
import Derived.Deep.RegionHeld3
namespace Go.Proofs.Ytakekmodimnadaa
open Go.RowKit Go.Maps Go.WideMaps

theorem drew_below {w : World} : Below w.heap.size w w.drew := (Below.refl _ _).drew

theorem wp_append_run {P : Program} {w w' : World} {o : Oper} {a : Act} {K : Act → World → Prop} {Q : Exit → Act → World → Prop} (s x : Operand) (t : TypeId) (v u v' : Value)
    (ho : o.op = .call { callee := .builtin .append, args := #[s, x], argTypes := #[t, t] }) (hs : a.eval s = v) (hx : a.eval x = u)
    (hrun : (Builtin.append_ #[t, t] o.type #[v, u]).run P w = .ok v' w') (h : K (a.put o.dst v') w') : o.wp P a w K Q := by
  unfold Oper.wp execOp
  simp only [ho, resolve, invoke, builtin, Sem.run_bind, Sem.run_pure, Result.andThen_ok, List.map_toArray, List.map_cons, List.map_nil, hs, hx, hrun]
  exact h

theorem step_append_run {P : Program} {w w' : World} {ops : Array Oper} {o : Oper} {a : Act} {K : Act → World → Prop} {Q : Exit → Act → World → Prop} {E : Prop} (hgd : o.guard = none) (s x : Operand) (t : TypeId) (v u v' : Value)
    (ho : o.op = .call { callee := .builtin .append, args := #[s, x], argTypes := #[t, t] }) (hs : a.eval s = v) (hx : a.eval x = u)
    (hrun : (Builtin.append_ #[t, t] o.type #[v, u]).run P w = .ok v' w') (h : K (a.put o.dst v') w') : if Region.wanted o (yielded ops a.tmps) = true then Oper.wp P o a w K Q else E := by
  have hw : Region.wanted o (yielded ops a.tmps) = true := by simp [Region.wanted, hgd]
  rw [if_pos hw]
  exact wp_append_run s x t v u v' ho hs hx hrun h

theorem texts_own {w : World} {base : Nat} {v : Value} {xs : List ByteArray} (h : w.ownsRow base 9 1 v xs.length (xs.map Value.string)) (hl : xs.length * 16 ≤ 140737488351232) (hs : ∀ s ∈ xs, s.size ≤ 140737488351232) : TextsAt w v xs := by
  rcases h.2 with ⟨rfl, h0⟩ | ⟨g, cap, cur, rfl, hbg, hg, h1, h2, h3, h4⟩
  · exact ⟨none, 0, by rw [h0], by omega, hs, .inl (List.eq_nil_of_length_eq_zero h0)⟩
  · refine ⟨_, cap, rfl, hl, hs, .inr ⟨g, 0, rfl, (Array.getElem?_eq_some_iff.1 hg).1, fun j hj => ?_⟩⟩
    rw [Nat.zero_add, World.ownsRow.cellAt h j (by simpa using hj)]
    simp [List.getD, hj]

theorem append_two {w0 w : World} {base' : Nat} {x1 x3 : Value} {s1 s3 : List ByteArray} (hB : Below w0.heap.size w0 w) (h1 : NewTexts w0.heap.size w x1 s1) (h3 : NewTexts base' w x3 s3) (hne : s3 ≠ []) (hws : ∀ s ∈ s1 ++ s3, s.size ≤ 140737488351232) (hl : s1.length + s3.length ≤ 1000000000) :
    ∃ g c v' w', x3 = .slice (some ⟨g, 0, none⟩) s3.length c ∧ (Builtin.append_ #[22, 22] 22 #[x1, .slice (some ⟨g, 0, none⟩) s3.length c]).run Try.prog w = .ok v' w' ∧ TextsAt w' v' (s1 ++ s3) ∧ Below w0.heap.size w0 w' := by
  obtain ⟨i0, hi, hz0, hz1, hz2⟩ := info_parts infoS
  have ho := own_of_new h1
  rcases h3.2 with ⟨_, h⟩ | ⟨g, c, cur, rfl, _, hg, _⟩
  · exact absurd h hne
  have hcells : ∀ j u, (s3.map Value.string)[j]? = some u → w.cell? ((⟨g, 0, none⟩ : Addr).add j) = some u := by
    intro j u hj
    obtain ⟨a', c2, e1, _, _, hcs⟩ := h3.1
    rcases hcs with hcs | ⟨b', off', e2, hlt, hc⟩
    · exact absurd hcs hne
    · rw [e2] at e1
      simp at e1
      obtain ⟨⟨rfl, rfl⟩, rfl⟩ := e1
      have hj2 : j < s3.length := by
        have := (List.getElem?_eq_some_iff.1 hj).1
        simpa using this
      have := hc j hj2
      rw [List.getElem?_map, List.getElem?_eq_getElem hj2] at hj
      rw [WideShapes.add_plain, this, getD_lt hj2]
      exact hj
  obtain ⟨v', w', hrun, hown, hgrow, _, _⟩ := run_append_own_at (P := Try.prog) w w0.heap.size 22 22 9 i0 (.string ByteArray.empty) 1 16 Try.underlying22 hi hz0 hz1 hz2 rfl (by decide) x1 s1.length (s1.map Value.string) ho ⟨g, 0, none⟩ s3.length c (s3.map Value.string) (by simp) hcells (fun x hx => by
      obtain ⟨y, _, rfl⟩ := List.mem_map.1 hx
      rfl) (by unfold maxLen; omega) (by omega) hB.size
  refine ⟨g, c, v', w', rfl, hrun, ?_, hB.grown hgrow hB.size (fun k hk => ?_)⟩
  · rw [← List.length_append, ← List.map_append] at hown
    exact texts_own hown (by rw [List.length_append]; omega) hws
  · rcases h1.2 with ⟨rfl, _⟩ | ⟨g1, c1, cur1, rfl, hb1, _⟩
    · simp [Value.ownBlock] at hk
    · have : g1 = k := by simpa [Value.ownBlock] using hk
      omega

/-- How three comparisons may come out. -/
def Ways (x y z q : Int) (t : Bool) : Prop :=
  (x = 0 ∧ y = -1 ∧ z = -1 ∧ q = 0 ∧ t = true) ∨ (x = 0 ∧ y = 0 ∧ z = 0 ∧ q = 0 ∧ t = true) ∨ (x = 0 ∧ y = 1 ∧ z = 1 ∧ q = 0 ∧ t = true) ∨ (x = -1 ∧ y = -1 ∧ z = -1 ∧ q = 1 ∧ t = false) ∨ (x = -1 ∧ y = 0 ∧ z = -1 ∧ q = 1 ∧ t = false) ∨ (x = -1 ∧ y = 1 ∧ z = -1 ∧ q = 1 ∧ t = false) ∨ (x = -1 ∧ y = 1 ∧ z = 0 ∧ q = 1 ∧ t = false) ∨ (x = -1 ∧ y = 1 ∧ z = 1 ∧ q = 1 ∧ t = false) ∨ (x = 1 ∧ y = 1 ∧ z = 1 ∧ q = -1 ∧ t = false) ∨ (x = 1 ∧ y = 0 ∧ z = 1 ∧ q = -1 ∧ t = false) ∨ (x = 1 ∧ y = -1 ∧ z = -1 ∧ q = -1 ∧ t = false) ∨ (x = 1 ∧ y = -1 ∧ z = 0 ∧ q = -1 ∧ t = false) ∨ (x = 1 ∧ y = -1 ∧ z = 1 ∧ q = -1 ∧ t = false)

set_option maxRecDepth 4000 in
set_option maxHeartbeats 3200000 in
theorem NameOrders_ok (a b c : ByteArray) (x y z q : Int) (t : Bool) (v : Value) (ss : List ByteArray) (w : World) (hv : TextsCap w v ss) (ha : (a.size : Int) ≤ 3000) (hb : (b.size : Int) ≤ 3000) (hc : (c.size : Int) ≤ 3000) (hh : shortB 300 9000 ss = true)
    (hx : cmpS a b = x) (hy : cmpS b c = y) (hz : cmpS a c = z) (hq : cmpS b a = q) (ht : (a.toList == b.toList) = t) (hne : ss ≠ [])
    (hcase : Ways x y z q t) :
    Calls Try.prog 3 #[.string a, .string b, .string c, v] w fun e w' => e = .returned (.bool true) ∧ Below w.heap.size w w' := by
  have HS := Lib.hid (shorts_any v ss w hv.1)
  have HB := Lib.hid hh
  have hl := (short_fit hh).1
  obtain ⟨⟨ad, cp, rfl, hlen, hss, hcs⟩, hcap⟩ := hv
  have hcap' := (hcap _ _ _ rfl).1
  obtain ⟨bk, off, rfl, hbk, hc2⟩ := TextsAt.ne hcs (k := 0) (List.length_pos_iff.2 hne)
  have HV := Lib.hid (show TextsAt w (.slice (some ⟨bk, off, none⟩) ss.length cp) ss from ⟨_, _, rfl, hlen, hss, hcs⟩)
  have hpos := List.length_pos_iff.2 hne
  obtain ⟨k, hk⟩ : ∃ k, k = ss.length / 2 := ⟨_, rfl⟩
  have hk1 : k < ss.length := by omega
  have HT := Lib.hid (texts_take k HV.out (by omega) cp)
  have HD := Lib.hid (texts_drop k HV.out hk1 (cp - k))
  have lt := sortS_length (ss.take k)
  have ld := sortS_length (ss.drop k)
  have ls := sortS_length ss
  have sp := sortS_pieces k ss
  have s2 := sortS_sortS ss
  have hdne : sortS (ss.drop k) ≠ [] := by
    intro e
    have hm : ss[k] ∈ ss.drop k := List.mem_drop_iff_getElem.2 ⟨0, by omega, by simp⟩
    rw [← mem_sortS, e] at hm
    cases hm
  have hws : ∀ s ∈ sortS (ss.take k) ++ sortS (ss.drop k), s.size ≤ 140737488351232 := by
    intro s hs
    rw [List.mem_append, mem_sortS, mem_sortS, ← List.mem_append, List.take_append_drop] at hs
    exact hss s hs
  rw [List.length_take] at lt
  rw [List.length_drop] at ld
  obtain ⟨s1, h1⟩ : ∃ s1, s1 = sortS (ss.take k) := ⟨_, rfl⟩
  obtain ⟨s3, h3⟩ : ∃ s3, s3 = sortS (ss.drop k) := ⟨_, rfl⟩
  obtain ⟨s5, h5⟩ : ∃ s5, s5 = sortS ss := ⟨_, rfl⟩
  rw [← h1, ← h3, ← h5] at sp
  rw [← h1] at lt
  rw [← h3] at ld
  rw [← h5] at s2 ls
  rw [← h1, ← h3] at hws
  rw [← h3] at hdne
  have HSA := fun W => fun (hW : TextsAt W (.slice (some ⟨bk, off, none⟩) ss.length cp) ss) => sort_any _ _ W hW (by omega)
  have HST := fun W => fun (hW : TextsAt W (.slice (some ⟨bk, off, none⟩) k cp) (ss.take k)) => sort_any _ _ W hW (by rw [List.length_take]; omega)
  have HSD := fun W => fun (hW : TextsAt W (.slice (some ⟨bk, off + k, none⟩) (ss.length - k) (cp - k)) (ss.drop k)) => sort_any _ _ W hW (by rw [List.length_drop]; omega)
  have HSP := fun V W => fun (hW : TextsAt W V (s1 ++ s3)) => sort_any _ _ W hW (by rw [List.length_append]; omega)
  have HSS := fun V W => fun (hW : TextsAt W V s5) => sort_any _ _ W hW (by omega)
  rw [← h1] at HST
  rw [← h3] at HSD
  rw [← h5] at HSA
  rw [sp] at HSP
  rw [s2] at HSS
  obtain ⟨n, hn⟩ : ∃ n, n = ss.length := ⟨_, rfl⟩
  rw [← hn] at hcap' hl hlen HS HV HSA HSD ls ld lt hk hk1 HD hpos ⊢
  have HN := Lib.hid hn
  have HSA := Lib.hid HSA
  have HST := Lib.hid HST
  have HSD := Lib.hid HSD
  have HSP := Lib.hid HSP
  have HSS := Lib.hid HSS
  have HWS := Lib.hid hws
  have HNE := Lib.hid hdne
  have HQ2 := Lib.hid (show (n : Int) / 2 = (k : Int) by omega)
  have hi0 : (0 : Int) ≤ (k : Int) := by omega
  have hi1 : (k : Int) ≤ (n : Int) := by omega
  have hi2 : (n : Int) ≤ (cp : Int) := by omega
  have hi3 : (k : Int) ≤ (cp : Int) := by omega
  clear hk
  clear hh hss hcs hcap hn h1 h3 h5 sp s2 hne hws hdne hc2
  have hcX := cmp_any a b
  have hcY := cmp_any b c
  have hcZ := cmp_any a c
  have hcW := cmp_any b a
  rw [hq] at hcW
  rw [hx] at hcX
  rw [hy] at hcY
  rw [hz] at hcZ
  clear hx hy hz
  have d1 : decide (3000 < (a.size : Int)) = false := by simp; omega
  have d2 : decide (3000 < (b.size : Int)) = false := by simp; omega
  have d3 : decide (3000 < (c.size : Int)) = false := by simp; omega
  clear ha hb hc
  have HX := Lib.hid hcX
  have HY := Lib.hid hcY
  have HZ := Lib.hid hcZ
  have HW := Lib.hid hcW
  clear hcX hcY hcZ hcW
  obtain ⟨i0, hi, hz0, hz1, hz2⟩ := info_parts infoS
  rcases hcase with ⟨rfl, rfl, rfl, rfl, rfl⟩ | ⟨rfl, rfl, rfl, rfl, rfl⟩ | ⟨rfl, rfl, rfl, rfl, rfl⟩ | ⟨rfl, rfl, rfl, rfl, rfl⟩ | ⟨rfl, rfl, rfl, rfl, rfl⟩ | ⟨rfl, rfl, rfl, rfl, rfl⟩ | ⟨rfl, rfl, rfl, rfl, rfl⟩ | ⟨rfl, rfl, rfl, rfl, rfl⟩ | ⟨rfl, rfl, rfl, rfl, rfl⟩ | ⟨rfl, rfl, rfl, rfl, rfl⟩ | ⟨rfl, rfl, rfl, rfl, rfl⟩ | ⟨rfl, rfl, rfl, rfl, rfl⟩ | ⟨rfl, rfl, rfl, rfl, rfl⟩
  all_goals
    go_enter Try.func3, Try.ntmps3
    go_upto_if 32 with (go_at_call 8; refine HS.out.mono ?_; rintro e w1 ⟨rfl, hb1⟩; rw [HB.out])
    go_wp2_with fail
    refine (HX.out _).mono ?_; rintro e w' ⟨rfl, rfl⟩
    go_wp2_with fail
    refine (HY.out _).mono ?_; rintro e w' ⟨rfl, rfl⟩
    go_wp2_with fail
    refine (HZ.out _).mono ?_; rintro e w' ⟨rfl, rfl⟩
    go_wp2_with fail
    refine (HW.out _).mono ?_; rintro e w' ⟨rfl, rfl⟩
    have C1 := Lib.hid (HSA.out w1 (HV.out.below hb1))
    go_wp2_with fail
    refine C1.out.mono ?_; rintro e w2 ⟨x5, rfl, hx5, hb2⟩
    clear C1
    have hb12 : Below w.heap.size w w2 := hb1.trans (hb2.mono hb1.size)
    have HX5 := Lib.hid hx5.1
    have HB12 := Lib.hid hb12
    have HTT := Lib.hid (HT.out.below hb12)
    have HDD := Lib.hid (HD.out.below hb12)
    clear hb1 hb2 hx5 hb12
    go_wp2_with fail
    rw [HQ2.out]
    have hw2 := @drew_below w2
    go_region_held3 (fun w' => True) (exact True.intro) (first
      | (go_at_call_of 11 (Value.slice (some ⟨bk, off, none⟩) k cp); refine (HST.out _ ?_).mono ?_; exact HTT.out.below (by assumption); rintro e w3 ⟨x1, rfl, hx1, hb3⟩; have hB3 : Below w2.heap.size w2 w3 := Below.trans (by assumption) (hb3.mono (Below.size (by assumption))); (first
          | (obtain ⟨g, cg, u, w5, rfl, hrun, hT5, hB5⟩ := append_two hB3 (new_base hx1 (Below.size (by assumption))) (new_below hx3 hb3) HNE.out HWS.out (by omega))
          | skip))
      | (go_at_call_of 11 (Value.slice (some ⟨bk, off + k, none⟩) (n - k) (cp - k)); refine (HSD.out _ ?_).mono ?_; exact HDD.out.below (by assumption); rintro e w3 ⟨x3, rfl, hx3, hb3⟩; have hB3 : Below w2.heap.size w2 w3 := Below.trans (by assumption) (hb3.mono (Below.size (by assumption))); (first
          | (obtain ⟨g, cg, u, w5, rfl, hrun, hT5, hB5⟩ := append_two hB3 (new_base (new_below hx1 hb3) (Below.size (by assumption))) hx3 HNE.out HWS.out (by omega))
          | skip))
      | (refine step_append_run (by rfl) (.tmp 89) (.tmp 93) 22 _ _ _ (by rfl) (by rfl) (by rfl) hrun ?_)
      | (go_at_call_of 11 u; refine (HSP.out u _ ?_).mono ?_; exact hT5; rintro e w6 ⟨x6, rfl, hx6, hb6⟩; have hB6 := Below.trans hB5 (hb6.mono (Below.size hB5))))
    all_goals
      have HB6 := Lib.hid (HB12.out.trans (hB6.mono HB12.out.size))
      have HX5 := Lib.hid (HX5.out.below hB6)
      have HX6 := Lib.hid hx6.1
      clear hB6 hx6 hx1 hx3 hT5 hB5 hrun hb3 hB3 hb6 HTT HDD
      go_wp2_with fail
      refine (alive_any _).mono ?_
      rintro e w7 ⟨rfl, hb7⟩
      have HB7 := Lib.hid (HB6.out.trans (hb7.mono HB6.out.size))
      have HC := Lib.hid (same_any x5 x6 s5 s5 w7 (HX5.out.below hb7) (HX6.out.below hb7))
      have HX5 := Lib.hid (HX5.out.below hb7)
      clear hb7 HX6 HB6
      go_wp2_with fail
      refine HC.out.mono ?_
      clear HC
      rintro e w8 ⟨rfl, hb8⟩
      rw [show decide True = true from rfl]
      have HB8 := Lib.hid (HB7.out.trans (hb8.mono HB7.out.size))
      have HX5 := Lib.hid (HX5.out.below hb8)
      have HC := Lib.hid (HSS.out x5 w8 HX5.out)
      clear hb8 HB7
      go_wp2_with fail
      refine HC.out.mono ?_
      clear HC
      rintro e w9 ⟨x7, rfl, hx7, hb9⟩
      have HB9 := Lib.hid (HB8.out.trans (hb9.mono HB8.out.size))
      have HC := Lib.hid (same_any x5 x7 s5 s5 w9 (HX5.out.below hb9) hx7.1)
      clear hb9 HB8 hx7
      go_wp2_with fail
      refine HC.out.mono ?_
      clear HC
      rintro e w10 ⟨rfl, hb10⟩
      rw [show decide True = true from rfl]
      have HB10 := Lib.hid (HB9.out.trans (hb10.mono HB9.out.size))
      clear hb10
      go_wp2
      go_ret
      exact ⟨rfl, HB10.out⟩

end Go.Proofs.Ytakekmodimnadaa
