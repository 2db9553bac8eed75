/-
  The Book: lists of texts stay.
-/
import Derived.Test.YtgbknjpjhkegdaaGreatTxA
import Derived.StillTailTactics
namespace Go.Proofs.YtgbknjpjhkegdaaGreat
open Go.RowKit Go.Maps Go.WideMaps

theorem Lists.text {base bk : Nat} {w : World} {tv : Value} {L : List (Value × List ByteArray)} (h : Lists csT 9 1 22 base bk w tv L) (hl : ∀ x ∈ L, x.2.length ≤ 1000000 ∧ ∀ s ∈ x.2, s.size ≤ 140737488351232) {x : Value × List ByteArray} (hx : x ∈ L) : TextsAt w x.1 x.2 :=
  ownT_texts (ownT_flat.2 (h.each x hx)) (hl x hx).1 (hl x hx).2

/-- What a list of the Book and its copy are at one place. -/
theorem kindT_at {base bk : Nat} {w : World} {tv wv : Value} {L C : List (Value × List ByteArray)} (hk : KindT base bk w tv wv L C) (hLC : L.map (·.2) = C.map (·.2)) (hl : ∀ x ∈ L, x.2.length ≤ 1000000 ∧ ∀ s ∈ x.2, s.size ≤ 140737488351232) {k : Nat} (h : k < L.length) :
    ∃ g cap g2 cap2 x z ss, tv = .slice (some ⟨g, 0, none⟩) L.length cap ∧ wv = .slice (some ⟨g2, 0, none⟩) L.length cap2 ∧ g < w.heap.size ∧ g2 < w.heap.size ∧ L.length ≤ cap ∧ L.length ≤ cap2 ∧ w.cell? ⟨g, k, none⟩ = some x ∧ w.cell? ⟨g2, k, none⟩ = some z ∧ TextsAt w x ss ∧ TextsAt w z ss := by
  have hlen : C.length = L.length := by have := congrArg List.length hLC; simpa using this.symm
  obtain ⟨g, cap, e1, h1, _, h2, _, h3⟩ := hk.lists.head (by omega)
  obtain ⟨g2, cap2, e2, h4, _, h5, _, h6⟩ := hk.copies.head (by omega)
  have hx : L[k]? = some L[k] := List.getElem?_eq_getElem h
  have hz : C[k]? = some C[k] := List.getElem?_eq_getElem (by omega)
  have hss : C[k].2 = L[k].2 := by
    have h7 : (L.map (·.2))[k]? = (C.map (·.2))[k]? := by rw [hLC]
    rw [List.getElem?_map, List.getElem?_map, hx, hz] at h7
    injection h7 with h7
    exact h7.symm
  have hlx := hl L[k] (List.getElem_mem h)
  refine ⟨g, cap, g2, cap2, L[k].1, C[k].1, L[k].2, e1, by rw [e2, hlen], h2, h5, h1, by omega, h3 k _ hx, h6 k _ hz, hk.lists.text hl (List.getElem_mem h), ?_⟩
  rw [← hss]
  exact ownT_texts (ownT_flat.2 (hk.copies.each _ (List.getElem_mem (by omega)))) (by rw [hss]; exact hlx.1) (by rw [hss]; exact hlx.2)

set_option maxRecDepth 100000 in
set_option maxHeartbeats 1600000 in
theorem stillT_any (base bk : Nat) (L C : List (Value × List ByteArray)) (tv wv : Value) (w : World) (hk : KindT base bk w tv wv L C) (hLC : L.map (·.2) = C.map (·.2)) (hn : L.length ≤ 1000) (hl : ∀ x ∈ L, x.2.length ≤ 1000000 ∧ ∀ s ∈ x.2, s.size ≤ 140737488351232) :
    Calls Tryz.prog 29 #[.pointer (some ⟨bk, 0, none⟩)] w fun e w' => e = .returned (.bool true) ∧ Below w.heap.size w w' := by
  have HA := Lib.hid (fun k => kindT_at (k := k) hk hLC hl)
  have hbk := hk.lt
  have hc0 := hk.c0
  have hc1 := hk.c1
  obtain ⟨an, cn, hform⟩ := own_form hk.lists.row
  obtain ⟨n, hN⟩ : ∃ n, n = L.length := ⟨_, rfl⟩
  rw [← hN] at hform hn
  have HN := Lib.hid hN
  clear hk hLC hl hN
  subst hform
  go_enter Tryz.func29, Tryz.ntmps29
  go_wp2
  go_loopw [3] (fun i wr => ∃ k : Nat, i = .int .i64 k ∧ k ≤ n ∧ Below w.heap.size w wr) (fun i _ => (n - RowKit.intOf i).toNat)
  case atStart => exact ⟨0, rfl, Nat.zero_le _, Below.refl _ _⟩
  case round =>
    obtain ⟨k, rfl, hk, hbw⟩ := hrel
    have HB := Lib.hid hbw
    have d0 := (hbw.cell (p := ⟨bk, 0, none⟩) hbk).trans hc0
    have d1 := (hbw.cell (p := ⟨bk, 1, none⟩) hbk).trans hc1
    by_cases hlt : k < n
    · have hltz : (k : Int) < (n : Int) := by omega
      have hk0 : (0 : Int) ≤ (k : Int) := by omega
      obtain ⟨g, cap, g2, cap2, x, z, ss, e1, rfl, hg, hg2, hcap, hcap2, hx, hz, htx, htz⟩ := HA.out k (by rw [← HN.out]; exact hlt)
      injection e1 with e1 _ e3
      subst e1 e3
      rw [← HN.out] at d1 hcap hcap2
      have x0 := (hbw.cell (p := ⟨g, k, none⟩) hg).trans hx
      have z0 := (hbw.cell (p := ⟨g2, k, none⟩) hg2).trans hz
      have HS := Lib.hid (fun W (hb : Below w.heap.size w W) => same_any x z ss ss W (TextsAt.below htx hb) (TextsAt.below htz hb))
      clear hx hz htx htz hg hg2 hbw
      go_wp2_with fail
      go_still_tail 14, (by kernel_rfl)
      change wpList _ _ _ _ _ wr.drew
      have HB2 := Lib.hid HB.out.drew
      generalize wr.drew = w2 at HB2 ⊢
      go_wp2_with fail
      refine (HS.out _ HB2.out).mono ?_
      rintro e w3 ⟨he, hb3⟩
      have he2 : e = .returned (.bool true) := by rw [he]; simp
      subst he2
      have HB3 := Lib.hid (HB2.out.trans (hb3.mono HB2.out.size))
      clear he hb3
      go_wp2
      go_roundw
      case rel => exact ⟨k + 1, by go_num, by omega, HB3.out⟩
      case measure => simp [RowKit.intOf]; omega
    · have hltz : ¬ (k : Int) < (n : Int) := by omega
      clear hbw
      go_wp2
      go_ret
      exact ⟨rfl, HB.out⟩
end Go.Proofs.YtgbknjpjhkegdaaGreat
