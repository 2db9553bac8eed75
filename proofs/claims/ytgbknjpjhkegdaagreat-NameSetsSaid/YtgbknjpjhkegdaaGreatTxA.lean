/-
  The Book: one more list of texts.
-/
import Derived.Test.YtgbknjpjhkegdaaGreatBookG
import Derived.Test.YtgbknjpjhkegdaaGreatBookV
import Derived.Deep.RegionHeld3
import Derived.Deep.RegionLaw
import Derived.Deep.AppendLies
import Derived.Deep.QuietTactic
import Derived.BigQuiet
namespace Go.Proofs.YtgbknjpjhkegdaaGreat
open Go.RowKit Go.Maps Go.WideMaps

def csT (s : ByteArray) : List Value := [.string s]
theorem flatT (ss : List ByteArray) : ss.flatMap csT = ss.map Value.string := by
  induction ss with
  | nil => rfl
  | cons a l ih => rw [List.flatMap_cons, ih]; rfl
theorem headsT : Heads Tryz.prog 26 22 := ⟨Tryz.underlying26, by kernel_rfl⟩
theorem oneT : ∀ a, ∀ u ∈ csT a, u.oneCell' = true := fun a u hu => by
  obtain rfl := List.mem_singleton.1 hu
  rfl
abbrev KindT (base bk : Nat) := Kind csT 9 1 22 base bk 0
theorem ownT_flat {w : World} {base : Nat} {v : Value} {ss : List ByteArray} : OwnT w base v ss ↔ w.ownsRow base 9 1 v ss.length (ss.flatMap csT) := by rw [flatT]; rfl

theorem ownT_texts {w : World} {base : Nat} {v : Value} {ss : List ByteArray} (h : OwnT w base v ss) (hl : ss.length ≤ 1000000) (hs : ∀ s ∈ ss, s.size ≤ 140737488351232) : TextsAt w v ss := by
  rcases Nat.eq_zero_or_pos ss.length with h0 | h0
  · have hss : ss = [] := List.eq_nil_of_length_eq_zero h0
    subst hss
    rcases h.2 with ⟨rfl, _⟩ | ⟨g, cap, cur, rfl, _⟩
    · exact ⟨_, _, rfl, by simp, by simp, .inl rfl⟩
    · exact ⟨_, _, rfl, by simp, by simp, .inl rfl⟩
  · obtain ⟨g, cap, rfl, _, h1, _, h2⟩ := own_row_cell h h0
    refine ⟨_, _, rfl, by omega, hs, .inr ⟨g, 0, rfl, h1, fun j hj => ?_⟩⟩
    rw [Nat.zero_add]
    exact h2 j _ (by simp [List.getD, hj])

theorem own_form {w : World} {base e size n : Nat} {v : Value} {xs : List Value} (h : w.ownsRow base e size v n xs) : ∃ a c, v = .slice a n c := by
  rcases h.2 with ⟨rfl, rfl⟩ | ⟨g, cap, cur, rfl, _⟩
  · exact ⟨_, _, rfl⟩
  · exact ⟨_, _, rfl⟩

theorem addT_tail {base bk : Nat} {w3 w4 : World} {tv wv u : Value} {L C : List (Value × List ByteArray)} {ss : List ByteArray} (hk : KindT base bk w3 tv wv L C) (hb : base ≤ bk) (hC : C.length < 250) (hu : OwnT w4 w3.heap.size u ss) (hb4 : Below w3.heap.size w3 w4) :
    ∃ a m c a' m' c' w6, u = .slice a m c ∧ (Builtin.append_ #[26, 26] 26 #[wv, .slice (some ⟨w4.heap.size, 0, none⟩) 1 1]).run Tryz.prog (w4.alloc (.cells #[.slice a m c] 22)) = .ok (.slice a' m' c') w6 ∧
      KindT base bk (w6.setCell ⟨bk, 1, none⟩ (.slice a' m' c')) tv (.slice a' m' c') L (C ++ [(u, ss)]) ∧ Turned (fun k => k = bk ∨ wv.ownBlock = some k) w3 (w6.setCell ⟨bk, 1, none⟩ (.slice a' m' c')) ∧
      (∀ j, 2 ≤ j → (w6.setCell ⟨bk, 1, none⟩ (.slice a' m' c')).cell? ⟨bk, j, none⟩ = w3.cell? ⟨bk, j, none⟩) ∧ w6.cell? ⟨bk, 1, none⟩ = some wv ∧ w6.frozen? ⟨bk, 1, none⟩ = false ∧ (w4.alloc (.cells #[.slice a m c] 22)).cell? ⟨bk, 1, none⟩ = some wv ∧ w4.cell? ⟨bk, 1, none⟩ = some wv := by
  have hlt := hk.lt
  have hk4 := hk.below hb4
  have hu' : OwnT w4 base u ss := own_le hu fun k hk' => by have := (hu.lt k hk').1; omega
  obtain ⟨wv', w6, hr2, hk2, ht2, hc2, hx2, hz2⟩ := kind_step2 headsT hk4 (by decide) hb (by omega) (ownT_flat.1 hu') (fun e => by have := (hu.lt _ e).1; omega) (fun y hy k hk1 e => by
    have := (hu.lt k e).1
    have := ((hk.copies.each y hy).lt k hk1).2
    omega) 26
  obtain ⟨a, m, c, rfl⟩ : ∃ a m c, u = .slice a m c := by obtain ⟨a, c, e⟩ := own_form hu; exact ⟨a, _, c, e⟩
  obtain ⟨a', m', c', rfl⟩ : ∃ a m c, wv' = .slice a m c := by obtain ⟨a, c, e⟩ := own_form hk2.copies.row; exact ⟨a, _, c, e⟩
  refine ⟨a, m, c, a', m', c', w6, rfl, hr2, hk2, (Turned.of_below hb4 _).trans ht2, fun j hj => (hc2 j (by omega)).trans (hb4.cell (p := ⟨bk, j, none⟩) hlt), hx2, hz2, ?_, hk4.c1⟩
  exact (((Below.refl _ w4).alloc (Nat.le_refl _) _).cell (p := ⟨bk, 1, none⟩) hk4.lt).trans hk4.c1

set_option maxRecDepth 100000 in
set_option maxHeartbeats 1600000 in
theorem addT_any (base bk : Nat) (L C : List (Value × List ByteArray)) (tv wv v : Value) (ss : List ByteArray) (w : World) (hk : KindT base bk w tv wv L C) (hb : base ≤ bk) (hL : L.length < 250) (hC : C.length < 250)
    (hv : OwnT w base v ss) (hf : v.ownBlock ≠ some bk) (ha : ∀ y ∈ L, ∀ k, y.1.ownBlock = some k → v.ownBlock ≠ some k) (hl : ss.length ≤ 1000000) (hs : ∀ s ∈ ss, s.size ≤ 140737488351232) :
    Calls Tryz.prog 12 #[.pointer (some ⟨bk, 0, none⟩), v] w fun e w' => e = .returned (.tuple #[]) ∧
      (∃ tv' wv' u, KindT base bk w' tv' wv' (L ++ [(v, ss)]) (C ++ [(u, ss)])) ∧ Turned (fun k => k = bk ∨ tv.ownBlock = some k ∨ wv.ownBlock = some k) w w' ∧ (∀ j, 2 ≤ j → w'.cell? ⟨bk, j, none⟩ = w.cell? ⟨bk, j, none⟩) := by
  obtain ⟨tv', w2, hr1, hk1, ht1, hc1, hx1, hz1⟩ := kind_step1 headsT hk (by decide) hb (by omega) (ownT_flat.1 hv) hf ha 26
  obtain ⟨at1, mt1, ct1, htf⟩ : ∃ a m c, tv' = .slice a m c := by obtain ⟨a, c, e⟩ := own_form hk1.lists.row; exact ⟨a, _, c, e⟩
  have hw3 := hk1.lists.each (v, ss) (by simp)
  have HC1 := Lib.hid hk1.c1
  have HK1 := Lib.hid hk1
  have HT1 := Lib.hid ht1
  have HD1 := Lib.hid hc1
  have HR1 := Lib.hid hr1
  have hc0 := hk.c0
  have HV := Lib.hid (ownT_flat.2 hw3)
  obtain ⟨an, cn, hform⟩ := own_form hk.lists.row
  obtain ⟨av, cv, hvf⟩ := own_form hv
  obtain ⟨nv, hnv⟩ : ∃ nv, nv = ss.length := ⟨_, rfl⟩
  rw [← hnv] at hvf
  have HNV := Lib.hid hnv
  obtain ⟨n, hn⟩ : ∃ n, n = L.length := ⟨_, rfl⟩
  rw [← hn] at hform
  have hn250 : (n : Int) < 250 := by omega
  have HL := Lib.hid hL
  have HCC := Lib.hid hC
  subst hform hvf htf
  clear hnv
  clear hr1 hk1 ht1 hc1 hw3 hk hn hL hC hv ha
  go_enter Tryz.func12, Tryz.ntmps12
  go_wp2_with (at_builtin; refine wpListT_append_run rfl _ _ _ (.slice an n cn) (.slice (some ⟨w.heap.size, 0, none⟩) 1 1) (.slice at1 mt1 ct1) rfl rfl rfl HR1.out ?_)
  have HX1 := Lib.hid hx1
  clear hx1 hz1 hc0
  generalize w2.setCell ⟨bk, 0, none⟩ (.slice at1 mt1 ct1) = w3 at *
  have HCP := Lib.hid (fun W (hb : Below w3.heap.size w3 W) => copyT_any (.slice av nv cv) ss W (TextsAt.below (ownT_texts HV.out hl hs) hb) hl)
  have hc1 := HC1.out
  rw [Nat.zero_add] at hc1
  have HT := Lib.hid (fun (u : Value) (w4 : World) (hu : OwnT w4 w3.heap.size u ss) (hb4 : Below w3.heap.size w3 w4) => addT_tail HK1.out hb HCC.out hu hb4)
  clear HC1 HX1 HR1 HL
  go_region_law
    (first
      | (go_simp; go_at_call 27; refine (HCP.out _ (Below.drew (Below.refl _ _))).mono ?_; rintro e w4 ⟨u, rfl, hu, hb4⟩; obtain ⟨a, m, c, a', m', c', w6, rfl, hr2, hk2, ht2, hc2, hx2, hz2, hy2, hy4⟩ := HT.out u w4 hu (Below.trans (Below.drew (Below.refl _ _)) hb4))
      | (refine stepB_append_run (by rfl) (.tmp 24) (.tmp 27) 26 _ _ _ (by rfl) (by rfl) (by rfl) hr2 ?_))
  all_goals
    go_end0
    exact ⟨rfl, ⟨_, _, _, hk2⟩, (HT1.out.mono fun k _ h => h.elim .inl fun h => .inr (.inl h)).trans (ht2.mono fun k _ h => h.elim .inl fun h => .inr (.inr h)), fun j hj => (hc2 j hj).trans (HD1.out j (by omega))⟩
end Go.Proofs.YtgbknjpjhkegdaaGreat
