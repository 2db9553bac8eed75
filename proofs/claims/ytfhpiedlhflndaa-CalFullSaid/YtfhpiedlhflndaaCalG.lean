/-
  A world that a statement keeps in sight ('Keeps'), the calendar's contracts over it, and the walk of CalGoes.
-/
import Derived.Test.YtfhpiedlhflndaaCalF
namespace Go.Proofs.Ytfhpiedlhflndaa
open Go.RowKit Go.Maps CalPure

/-- Nothing that lay in w0 has turned, and at block b lies the calendar D. -/
def Keeps (w0 : World) (b : Nat) (D : DU) (W : World) : Prop := Below w0.heap.size w0 W ∧ CalAt W b D

theorem Keeps.step {w0 W W' : World} {b : Nat} {D : DU} (h : Keeps w0 b D W) (hb : Below W.heap.size W W') : Keeps w0 b D W' :=
  ⟨h.1.trans (hb.mono h.1.size), h.2.below hb⟩

theorem is_k {w0 W : World} {b : Nat} {D : DU} (d : Int) (h : Keeps w0 b D W) : Calls Try.prog 10 #[.pointer (some ⟨b, 0, none⟩), .int .i64 d] W fun e W' => e = .returned (.bool (isB (holD D) d)) ∧ Keeps w0 b D W' :=
  (is_any b D d W h.2).mono fun _ _ ⟨he, hb⟩ => ⟨he, h.step hb⟩
theorem next_k {w0 W : World} {b : Nat} {D : DU} (d : Int) (h : Keeps w0 b D W) : Calls Try.prog 9 #[.pointer (some ⟨b, 0, none⟩), .int .i64 d] W fun e W' => e = .returned (.int .i64 (next (holD D) d)) ∧ Keeps w0 b D W' :=
  (next_any b D d W h.2).mono fun _ _ ⟨he, hb⟩ => ⟨he, h.step hb⟩
theorem add_k {w0 W : World} {b : Nat} {D : DU} (d n : Int) (h : Keeps w0 b D W) (h0 : -9223372036854775808 ≤ n) (h1 : n ≤ 9223372036854775807) : Calls Try.prog 11 #[.pointer (some ⟨b, 0, none⟩), .int .i64 d, .int .i64 n] W fun e W' => e = .returned (.int .i64 (adds (holD D) n.toNat d)) ∧ Keeps w0 b D W' :=
  (add_any b D d n W h.2 h0 h1).mono fun _ _ ⟨he, hb⟩ => ⟨he, h.step hb⟩
theorem days_k {w0 W : World} {b : Nat} {D : DU} (f t : Int) (h : Keeps w0 b D W) : Calls Try.prog 12 #[.pointer (some ⟨b, 0, none⟩), .int .i64 f, .int .i64 t] W fun e W' => e = .returned (.int .i64 (days (holD D) f t)) ∧ Keeps w0 b D W' :=
  (days_any b D f t W h.2).mono fun _ _ ⟨he, hb⟩ => ⟨he, h.step hb⟩
theorem alive_k {w0 W : World} {b : Nat} {D : DU} (h : Keeps w0 b D W) : Calls Try.prog 8 #[] W fun e W' => e = .returned (.bool true) ∧ Keeps w0 b D W' :=
  (alive_any W).mono fun _ _ ⟨he, hb⟩ => ⟨he, h.step hb⟩

theorem hol_keys (D : DU) : ∃ K : List Int, K.length = Maps.size D ∧ ∀ x, holD D x = true → x ∈ K := by
  cases D with
  | map es =>
    refine ⟨es.map fun p => Go.intOf p.1, by simp [Maps.size], fun x hx => ?_⟩
    obtain ⟨p, hp, hk⟩ := List.any_eq_true.1 (show es.any (fun p => p.1.sameKey (.int .i64 x)) = true from hx)
    refine List.mem_map.2 ⟨p, hp, ?_⟩
    rw [WideAt.sameKey_eq hk]; rfl
  | _ => exact ⟨[], rfl, fun x hx => by cases hx⟩

theorem size_new {xs : List Int} (h : closeE (.map []) xs = 0) : Maps.size (putAll (.map []) xs) ≤ 300 := by
  have := size_close (.map []) xs (by simp [Maps.size])
  unfold closeD at this
  rwa [if_pos h] at this

/-- What the statement says, of the calendar alone. -/
structure Goes (h : Int → Bool) (day n m x y : Int) : Prop where
  xlt : day < x
  xle : x ≤ 1000000
  xis : isB h x = true
  xno : ∀ d, day < d → d < x → isB h d = false
  yle : day ≤ y ∧ y ≤ day + 700
  dx : days h day x = 1
  dy : days h day y = n
  ady : adds h m.toNat y = adds h (n + m).toNat day
  sum : days h y (y + m) + n = days h day (y + m)
  bd : 0 ≤ days h y (y + m) ∧ days h y (y + m) ≤ 1000

theorem goes (h : Int → Bool) (K : List Int) (hK : ∀ x, h x = true → x ∈ K) (hl : K.length ≤ 300) (day n m : Int) (h0 : 0 ≤ day) (h1 : day ≤ 900000) (hn : 1 ≤ n) (hn2 : n ≤ 60) (hm : 1 ≤ m) (hm2 : m ≤ 60) :
    Goes h day n m (next h day) (adds h n.toNat day) := by
  have he := enough h K hK hl day h0 h1
  have en : next h day = nxt h (1000000 - day).toNat day := by unfold next; rw [from1_of (by omega)]
  have hf := nxt_found h 700 day h0 (by omega) (1000000 - day).toNat (by omega)
  rw [← en] at hf
  have hx := next_range h day
  have ha := adds_found h n.toNat 700 day h0 (by omega) (by omega)
  obtain ⟨f1, f2, f3⟩ := hf
  obtain ⟨a1, a2, a3⟩ := ha
  have hxb : isB h (next h day) = true := by
    rcases hx with hx | hx
    · omega
    · exact hx.2.2
  have hdy : days h day (adds h n.toNat day) = n := by rw [days_of h (by omega) (by omega), a3]; omega
  have hs := days_add h (a := day) (b := adds h n.toNat day) (c := adds h n.toNat day + m) h0 a1 (by omega) (by omega)
  have hr := cnt_range h (adds h n.toNat day + m - adds h n.toNat day).toNat (adds h n.toNat day)
  have hd := days_of h (f := adds h n.toNat day) (t := adds h n.toNat day + m) (by omega) (by omega)
  refine ⟨f1, by omega, hxb, fun d d1 d2 => ?_, ⟨a1, by omega⟩, by rw [days_of h (by omega) (by omega), f3], hdy, ?_, by omega, by rw [hd]; omega⟩
  · rw [en] at d2
    exact nxt_none h _ day d (by rw [← en]; omega) d1 d2
  · have e : (n + m).toNat = n.toNat + m.toNat := by omega
    rw [e, adds_add h _ _ _ h0 (by omega)]

set_option maxHeartbeats 1600000 in
theorem CalGoes_walk (v0 : Value) (xs : List Int) (a1 a2 a3 : Int) (w : World) (hv : IntsAt w v0 xs) (_ : (Lit.int .i64 a1).wf = true) (_ : (Lit.int .i64 a2).wf = true) (_ : (Lit.int .i64 a3).wf = true) :
    Calls Try.prog 3 #[v0, .int .i64 a1, .int .i64 a2, .int .i64 a3] w fun e w' => e = .returned (.bool true) ∧ Below w.heap.size w w' := by
  obtain ⟨z, hz⟩ : ∃ z, z = closeE (.map []) xs := ⟨_, rfl⟩
  have hnew := new_any v0 xs w hv
  rw [← hz] at hnew
  have HN := Lib.hid hnew
  obtain ⟨a, c, rfl, hlen, _, _⟩ := hv
  obtain ⟨n, hn⟩ : ∃ n, n = xs.length := ⟨_, rfl⟩
  rw [← hn] at HN hlen ⊢
  have HZ := Lib.hid hz
  have HL := Lib.hid hn
  clear hz hnew hn
  by_cases h0 : z = 0
  · by_cases hg : n ≤ 300 ∧ 0 ≤ a1 ∧ a1 ≤ 900000 ∧ 1 ≤ a2 ∧ a2 ≤ 60 ∧ 1 ≤ a3 ∧ a3 ≤ 60
    · obtain ⟨g1, g2, g3, g4, g5, g6, g7⟩ := hg
      subst h0
      obtain ⟨D, hD⟩ : ∃ D, D = putAll (.map []) xs := ⟨_, rfl⟩
      have HDD := Lib.hid hD
      obtain ⟨K, hK1, hK2⟩ := hol_keys D
      have hgo := goes (holD D) K hK2 (by rw [hK1, hD]; exact size_new HZ.out.symm) a1 a2 a3 g2 g3 g4 g5 g6 g7
      obtain ⟨x, hx⟩ : ∃ x, x = next (holD D) a1 := ⟨_, rfl⟩
      obtain ⟨y, hy⟩ : ∃ y, y = adds (holD D) a2.toNat a1 := ⟨_, rfl⟩
      rw [← hx, ← hy] at hgo
      have Hx := Lib.hid hx
      have Hy := Lib.hid hy
      have HG := Lib.hid hgo
      clear hK1 hK2 hx hy hgo hD HZ
      have x1 := HG.out.xlt
      have x2 := HG.out.xle
      go_enter Try.func3, Try.ntmps3
      go_wp2_with fail
      refine HN.out.mono ?_
      rintro e w1 ⟨hb1, ⟨hz, _⟩ | ⟨_, b, rfl, hle, hc⟩⟩
      · exact absurd rfl hz
      have hk : Keeps w b D w1 := ⟨hb1, by rw [HDD.out]; exact hc⟩
      clear hb1 hle hc
      have xi := HG.out.xis
      go_wp2_with (first
        | (go_at_call 9; refine (next_k _ hk).mono ?_; rintro e w2 ⟨rfl, hk2⟩; rw [← Hx.out])
        | (go_at_call 10; refine (is_k _ hk2).mono ?_; rintro e w3 ⟨rfl, hk3⟩))
      clear hk hk2 xi
      go_loopw [12] (fun s wr => ∃ d : Int, s = .int .i64 d ∧ a1 < d ∧ d ≤ x ∧ Keeps w b D wr) (fun s _ => (x - RowKit.intOf s).toNat)
      case atStart => exact ⟨a1 + 1, rfl, by omega, by omega, hk3⟩
      case round =>
        obtain ⟨d, rfl, d1, d2, hk4⟩ := hrel
        clear hk3
        by_cases hdx : d < x
        · have hno := HG.out.xno d d1 hdx
          go_wp2_with (go_at_call 10; refine (is_k _ hk4).mono ?_; rintro e w5 ⟨rfl, hk5⟩)
          go_roundw
          case rel => exact ⟨d + 1, rfl, by omega, by omega, hk5⟩
          case measure => simp [RowKit.intOf]; omega
        · obtain ⟨y1, y2⟩ := HG.out.yle
          have e1 := HG.out.dx
          have e2 := HG.out.dy
          have e3 := HG.out.ady
          have e4 := HG.out.sum
          obtain ⟨q1, q2⟩ := HG.out.bd
          have r1 : 0 ≤ days (holD D) a1 (y + a3) := by omega
          have r2 : days (holD D) a1 (y + a3) ≤ 1060 := by omega
          have f3 : (adds (holD D) a3.toNat y == adds (holD D) (a2 + a3).toNat a1) = true := by simpa using e3
          have f4 : (a2 + days (holD D) y (y + a3) == days (holD D) a1 (y + a3)) = true := by simp; omega
          clear e3 e4
          go_wp2_with fail
          refine (add_k _ _ hk4 (by omega) (by omega)).mono ?_
          rintro e w5 ⟨rfl, hk5⟩
          rw [← Hy.out]
          clear hk4
          go_wp2_with fail
          refine (alive_k hk5).mono ?_
          rintro e w6 ⟨rfl, hk6⟩
          clear hk5
          go_wp2_with fail
          refine (days_k _ _ hk6).mono ?_
          rintro e w7 ⟨rfl, hk7⟩
          clear hk6
          go_wp2_with fail
          refine (days_k _ _ hk7).mono ?_
          rintro e w8 ⟨rfl, hk8⟩
          clear hk7
          go_wp2_with fail
          refine (add_k _ _ hk8 (by omega) (by omega)).mono ?_
          rintro e w9 ⟨rfl, hk9⟩
          clear hk8
          go_wp2_with fail
          refine (add_k _ _ hk9 (by omega) (by omega)).mono ?_
          rintro e w10 ⟨rfl, hk10⟩
          clear hk9
          go_wp2_with fail
          refine (days_k _ _ hk10).mono ?_
          rintro e w11 ⟨rfl, hk11⟩
          clear hk10
          go_wp2_with fail
          refine (days_k _ _ hk11).mono ?_
          rintro e w12 ⟨rfl, hk12⟩
          clear hk11
          go_wp2_with fail
          refine (days_k _ _ hk12).mono ?_
          rintro e w13 ⟨rfl, hk13⟩
          go_wp2_with fail
          go_ret
          exact ⟨rfl, hk13.1⟩
    · subst h0
      go_enter Try.func3, Try.ntmps3
      go_wp2_with fail
      refine HN.out.mono ?_
      rintro e w1 ⟨hb1, ⟨hz, _⟩ | ⟨_, b, rfl, hle, hc⟩⟩
      · exact absurd rfl hz
      clear hle hc
      have H1 := Lib.hid hb1
      have Hg := Lib.hid hg
      clear hb1 hg
      go_wp2_with (go_at_call 8; refine (alive_any _).mono ?_; rintro e w2 ⟨rfl, hb2⟩)
      all_goals first
        | (go_ret; exact ⟨rfl, H1.out.trans (hb2.mono H1.out.size)⟩)
        | (exfalso; have := Hg.out; omega)
  · have h1 : (z != 0) = true := by simpa using h0
    go_enter Try.func3, Try.ntmps3
    go_wp2_with fail
    refine HN.out.mono ?_
    rintro e w1 ⟨hb1, ⟨_, rfl⟩ | ⟨hz, _⟩⟩
    · have H1 := Lib.hid hb1
      clear h0 hb1
      go_wp2_with (go_at_call 8; refine (alive_any _).mono ?_; rintro e w2 ⟨rfl, hb2⟩)
      go_ret
      exact ⟨rfl, H1.out.trans (hb2.mono H1.out.size)⟩
    · exact absurd hz h0

end Go.Proofs.Ytfhpiedlhflndaa
