/-
  The Book: lists of texts are marked.
-/
import Derived.Test.YtgbknjpjhkegdaaGreatTxB
import Derived.Test.YtgbknjpjhkegdaaGreatBookH
namespace Go.Proofs.YtgbknjpjhkegdaaGreat
open Go.RowKit Go.Maps Go.WideMaps

theorem bname_size (i k : Nat) : (bname i k).size ≤ 140737488351232 := by
  simp [bname, strOfNums, ByteArray.size]
theorem marksT_eq (i f n : Nat) : marksT i f n = marksG bname i f n := rfl
theorem marksT_size (i f n : Nat) : ∀ s ∈ marksT i f n, s.size ≤ 140737488351232 := fun s hs => by
  obtain ⟨j, _, rfl⟩ := List.mem_map.1 hs
  exact bname_size _ _

abbrev PutAtT (base bk : Nat) := PutAt bname csT 9 1 22 base bk
abbrev PutInT (base bk : Nat) := PutIn bname csT 9 1 22 base bk

/-- One text of one list is written. -/
theorem putInT_store {base bk : Nat} {w0 w : World} {tv m : Value} {L M : List (Value × List ByteArray)} {j n k H g cap : Nat} (h : PutInT base bk w0 tv L w M j (.slice (some ⟨g, 0, none⟩) n cap) n k H m) (hk : k < n) :
    ∃ M', PutInT base bk w0 tv L (w.setCell ⟨g, k, none⟩ (.string (bname j k))) M' j (.slice (some ⟨g, 0, none⟩) n cap) n (k + 1) H m := by
  obtain ⟨ss, hx, hl, _⟩ := h.here
  obtain ⟨hi, hxi⟩ := List.getElem?_eq_some_iff.1 hx
  have hrow := h.pa.ls.each _ (hxi ▸ List.getElem_mem hi)
  refine ⟨_, h.turn (by decide) hk hx (Turned.setCell (T := fun b => (Value.slice (some ⟨g, 0, none⟩) n cap).ownBlock = some b) (Turned.refl _ _) (p := ⟨g, k, none⟩) rfl _) ?_⟩
  rw [flatT, List.map_set, ← flatT]
  have h2 : w.ownsRow base 9 1 (.slice (some ⟨g, 0, none⟩) n cap) n (ss.flatMap csT) := by
    have h3 : w.ownsRow base 9 1 (.slice (some ⟨g, 0, none⟩) n cap) ss.length (ss.flatMap csT) := hrow
    rw [hl] at h3
    exact h3
  exact (World.ownsRow.stored h2 k (.string (bname j k))).1

/-- What the walk reads of the list at hand. -/
theorem PutAt.read {base bk : Nat} {w0 w : World} {tv : Value} {L M : List (Value × List ByteArray)} {j : Nat} (h : PutAtT base bk w0 tv L w M j) (hj : j < L.length) :
    ∃ g cap v ss, tv = .slice (some ⟨g, 0, none⟩) L.length cap ∧ L.length ≤ cap ∧ M[j]? = some (v, ss) ∧ w.cell? ⟨g, j, none⟩ = some v ∧ (∃ y ∈ L, y.2.length = ss.length) ∧ ∃ a c, v = .slice a ss.length c := by
  have hM := h.sh.len
  obtain ⟨g, cap, e1, h1, _, _, _, h3⟩ := h.ls.head (by omega)
  have hx : M[j]? = some (M[j].1, M[j].2) := List.getElem?_eq_getElem (by omega)
  obtain ⟨y, hy, _, hl⟩ := h.sh.mem (List.getElem_mem (l := M) (n := j) (by omega))
  obtain ⟨a, c, e⟩ := own_form (h.ls.each _ (List.getElem_mem (l := M) (n := j) (by omega)))
  exact ⟨g, cap, M[j].1, M[j].2, by rw [e1, hM], by omega, hx, h3 j _ hx, ⟨y, hy, hl⟩, a, c, e⟩

theorem PutIn.read {base bk : Nat} {w0 w : World} {tv v m : Value} {L M : List (Value × List ByteArray)} {j n k H : Nat} (h : PutInT base bk w0 tv L w M j v n k H m) (hk : k < n) :
    ∃ g cap g2 cap2 u, v = .slice (some ⟨g, 0, none⟩) n cap ∧ n ≤ cap ∧ m = .slice (some ⟨g2, 0, none⟩) n cap2 ∧ n ≤ cap2 ∧ w.cell? ⟨g, k, none⟩ = some u ∧ w.frozen? ⟨g, k, none⟩ = false ∧ w.cell? ⟨g2, k, none⟩ = some (.string (bname j k)) := by
  obtain ⟨ss, hx, hl, _⟩ := h.here
  obtain ⟨hi, hxi⟩ := List.getElem?_eq_some_iff.1 hx
  have hrow : w.ownsRow base 9 1 v ss.length (ss.flatMap csT) := h.pa.ls.each _ (hxi ▸ List.getElem_mem hi)
  rw [hl] at hrow
  obtain ⟨g, cap, rfl, _, _, h1, h2⟩ := own_row_cell hrow (by omega)
  obtain ⟨g2, cap2, rfl, _, _, h3, h4⟩ := own_row_cell h.ow (by omega)
  refine ⟨g, cap, g2, cap2, _, rfl, h1, rfl, h3, h2 k (.string (ss[k])) (by rw [flatT]; simp), World.ownsRow.frozenAt hrow k, h4 k _ (by rw [flatT, List.getElem?_map, marksG_get bname hk]; rfl)⟩

theorem PutIn.head {base bk : Nat} {w0 w : World} {m v : Value} {L M : List (Value × List ByteArray)} {j n k H g c : Nat} {q : Nat} (h : PutInT base bk w0 (.slice (some ⟨g, 0, none⟩) q c) L w M j v n k H m) : w.cell? ⟨g, j, none⟩ = some v := by
  obtain ⟨ss, hx, _, _⟩ := h.here
  obtain ⟨hi, _⟩ := List.getElem?_eq_some_iff.1 hx
  obtain ⟨g', cap, e1, _, _, _, _, h3⟩ := h.pa.ls.head (by omega)
  injection e1 with e1
  injection e1 with e1
  injection e1 with e1 _ _
  subst e1
  exact h3 j _ hx

set_option maxRecDepth 100000 in
set_option maxHeartbeats 1600000 in
theorem putT_any (base bk : Nat) (L : List (Value × List ByteArray)) (tv : Value) (w : World) (hk : Lists csT 9 1 22 base bk w tv L) (hc0 : w.cell? ⟨bk, 0, none⟩ = some tv) (hn : L.length ≤ 1000) (hl : ∀ x ∈ L, x.2.length ≤ 400000) :
    Calls Tryz.prog 50 #[.pointer (some ⟨bk, 0, none⟩)] w fun e w' => e = .returned (.tuple #[]) ∧ ∃ M, PutAtT base bk w tv L w' M L.length := by
  have hbk : bk < w.heap.size := World.block_lt_of_cell? w ⟨bk, 0, none⟩ hc0
  have HK := Lib.hid hk
  have HLL := Lib.hid hl
  obtain ⟨an, cn, hform⟩ := own_form hk.row
  obtain ⟨n, hN⟩ : ∃ n, n = L.length := ⟨_, rfl⟩
  rw [← hN] at hform hn
  have HN := Lib.hid hN
  clear hk hl hN
  subst hform
  go_enter Tryz.func50, Tryz.ntmps50
  go_wp2
  go_loopw [2] (fun i wr => ∃ (j : Nat) (M : List (Value × List ByteArray)), i = .int .i64 j ∧ j ≤ n ∧ Hid (PutAtT base bk w (.slice an n cn) L wr M j)) (fun i _ => (n - RowKit.intOf i).toNat)
  case atStart => exact ⟨0, L, rfl, Nat.zero_le _, Lib.hid (PutAt.start HK.out)⟩
  case round =>
    obtain ⟨j, M, rfl, hj, HP⟩ := hrel
    have d0 := (HP.out.tn.cell (p := ⟨bk, 0, none⟩) hbk HP.out.nobk).trans hc0
    by_cases hlt : j < n
    · have hltz : (j : Int) < (n : Int) := by omega
      have hj0 : (0 : Int) ≤ (j : Int) := by omega
      obtain ⟨g, cap, v, ss, e1, hcap, hx, x0, ⟨y, hy, hyl⟩, av, cv, rfl⟩ := HP.out.read (by rw [← HN.out]; exact hlt)
      have hss : ss.length ≤ 400000 := by rw [← hyl]; exact HLL.out y hy
      rw [← HN.out] at e1 hcap
      injection e1 with e1 _ e3
      subst e1 e3
      obtain ⟨m, hm⟩ : ∃ m, m = ss.length := ⟨_, rfl⟩
      rw [← hm] at x0 hx hss
      have HMM := Lib.hid hm
      have HX := Lib.hid hx
      have HMK := Lib.hid (markT_any j 0 m wr (by omega) (by omega) hss)
      have HZ : ((0 : Nat) : Int) = 0 := rfl
      rw [HZ] at HMK
      clear hx hm hy hyl
      go_wp2_with fail
      refine HMK.out.mono ?_
      rintro e w1 ⟨mv, rfl, hmv, hbm⟩
      have HI : Hid (PutInT base bk w (.slice (some ⟨g, 0, none⟩) n cn) L w1 M j (.slice av m cv) m 0 wr.heap.size mv) := by
        have h1 := HP.out.enter (m := mv) (ss := ss) HX.out hbm
        rw [← HMM.out] at h1
        refine Lib.hid (h1 ?_)
        have h2 := ownT_flat.1 hmv
        rw [marksT_len] at h2
        exact h2
      obtain ⟨am, cm, rfl⟩ : ∃ a c, mv = .slice a m c := by
        obtain ⟨a, c, e⟩ := own_form hmv
        rw [marksT_len] at e
        exact ⟨a, c, e⟩
      clear hmv hbm d0 x0 HX HP HMK
      obtain ⟨H, hH⟩ : ∃ H, H = wr.heap.size := ⟨_, rfl⟩
      rw [← hH] at HI
      clear hH
      go_wp2_with fail
      go_loopw [4] (fun i wr => ∃ (k : Nat) (M' : List (Value × List ByteArray)), i = .int .i64 k ∧ k ≤ m ∧ Hid (PutInT base bk w (.slice (some ⟨g, 0, none⟩) n cn) L wr M' j (.slice av m cv) m k H (.slice am m cm))) (fun i _ => (m - RowKit.intOf i).toNat)
      case atStart => exact ⟨0, M, rfl, Nat.zero_le _, HI⟩
      case round =>
        obtain ⟨k, M', rfl, hk, HI2⟩ := hrel
        have e0 := (HI2.out.pa.tn.cell (p := ⟨bk, 0, none⟩) hbk HI2.out.pa.nobk).trans hc0
        have e1 := HI2.out.head
        by_cases hlt2 : k < m
        · have hltz2 : (k : Int) < (m : Int) := by omega
          have hk0 : (0 : Int) ≤ (k : Int) := by omega
          obtain ⟨gx, capx, g2, cap2, u, f1, hcx, f2, hc2, y1, y2, y3⟩ := HI2.out.read hlt2
          injection f1 with f1 _ f3
          injection f2 with f2 _ f4
          subst f1 f2 f3 f4
          go_wp2_with fail
          go_still_tail 13, (by kernel_rfl)
          change wpList _ _ _ _ _ wr.drew
          have HI3 : Hid (PutInT base bk w (.slice (some ⟨g, 0, none⟩) n cn) L wr.drew M' j (.slice (some ⟨gx, 0, none⟩) m cv) m k H (.slice (some ⟨g2, 0, none⟩) m cm)) := Lib.hid (HI2.out.below (Below.drew (Below.refl _ _)))
          replace y1 : wr.drew.cell? ⟨gx, k, none⟩ = some u := y1
          replace y2 : wr.drew.frozen? ⟨gx, k, none⟩ = false := y2
          clear y3 e0 e1 HI2
          generalize wr.drew = w3 at HI3 y1 y2 ⊢
          have HN2 := Lib.hid (putInT_store HI3.out hlt2)
          go_wp2_with fail
          go_roundw
          case rel =>
            obtain ⟨M2, h2⟩ := HN2.out
            exact ⟨k + 1, M2, by go_num, by omega, Lib.hid h2⟩
          case measure => simp [RowKit.intOf]; omega
        · have hltz2 : ¬ (k : Int) < (m : Int) := by omega
          have HD := Lib.hid (HI2.out.done (by omega))
          clear e0 e1 HI2 HI
          go_wp2_with fail
          go_roundw
          case rel => exact ⟨j + 1, M', by go_num, by omega, HD⟩
          case measure => simp [RowKit.intOf]; omega
    · have hltz : ¬ (j : Int) < (n : Int) := by omega
      obtain rfl : j = n := by omega
      go_wp2
      go_end0
      exact ⟨rfl, M, by rw [← HN.out]; exact HP.out⟩
end Go.Proofs.YtgbknjpjhkegdaaGreat
