/-
  ref: the walk of RefOwn.
-/
import Derived.Test.YtohlmegbndgedaaRefN
namespace Go.Proofs.Ytohlmegbndgedaa
open Go.RowKit Go.Maps Go.WideMaps Held

theorem acc1 (w : World) (t : TypeId) (b : Nat) (hb : w.heap.size = b) (x : Acc) (hx : x.wf) : AccsAt (w.alloc (.cells #[.string x.name, .string x.party] t)) (.slice (some ⟨b, 0, none⟩) 1 1) [x] := by
  subst hb
  refine ⟨_, 1, rfl, by simp, fun y hy => by simp at hy; subst hy; exact hx, .inr ⟨_, 0, rfl, by simp, fun i j hi hj => ?_⟩⟩
  obtain rfl : i = 0 := by simp at hi; omega
  rw [cell_of_row _ _ _ _ t (0, 0) (heap_alloc_new w _)]
  match j, hj with
  | 0, _ => rfl
  | 1, _ => rfl

theorem OwnP.names {w : World} {base : Nat} {v : Value} {xs : List Pty} (h : OwnP w base v xs) (hne : 0 < xs.length) : ∃ g c, v = .slice (some ⟨g, 0, none⟩) xs.length c ∧ g < w.heap.size ∧ ∀ t, t < xs.length → w.cell? ⟨g, t * 2, none⟩ = some (.string (xs.getD t pty0).name) := by
  obtain ⟨g, cap, rfl, _, hg, _, hc⟩ := row_cell h hne
  refine ⟨g, cap, rfl, hg, fun t ht => ?_⟩
  exact hc _ _ (flat_get Pty.cells 2 (fun _ => rfl) pty0 xs t 0 ht (by omega))

theorem allP_in {w0 w : World} {R g : Nat} {d : Dat} (h : RefIn w0 w R g d) (hks : ∀ s, hasV d.p s = true → s.size ≤ maxLen) :
    Calls Try.prog 14 #[.pointer (some ⟨R, 0, none⟩)] w fun e w' => ∃ v, e = .returned v ∧ OwnP w' w.heap.size v (rowsP d.p) ∧ Below w.heap.size w w' := by
  obtain ⟨p, q, r, h1, _⟩ := h.ex
  exact allP_any w h1 hks

theorem PInv.key {D : DH} (h : PInv D) {t : Nat} (ht : t < (keysV D).length) : ((rowsP D).getD t pty0).name = (keysV D).getD t ByteArray.empty ∧ 1 ≤ ((keysV D).getD t ByteArray.empty).size ∧ ((keysV D).getD t ByteArray.empty).size ≤ 12 := by
  have e : (keysV D).getD t ByteArray.empty = (keysV D)[t] := by simp [List.getD, ht]
  have e2 : (rowsP D).getD t pty0 = getP D (keysV D)[t] := by simp [rowsP, List.getD, ht]
  have hh := h.nm _ ((mem_keysV h.keys _).1 (List.getElem_mem ht))
  rw [e, e2]
  exact hh
theorem PInv.ahead {D : DH} (h : PInv D) {t : Nat} (ht : t + 1 < (keysV D).length) : cmpS ((keysV D).getD t ByteArray.empty) ((keysV D).getD (t + 1) ByteArray.empty) = -1 := by
  have e : (keysV D).getD t ByteArray.empty = (keysV D)[t] := by simp [List.getD, show t < (keysV D).length by omega]
  have e2 : (keysV D).getD (t + 1) ByteArray.empty = (keysV D)[t + 1] := by simp [List.getD, ht]
  rw [e, e2]
  unfold cmpS
  rw [if_pos]
  exact List.pairwise_iff_getElem.1 (keysV_sorted h.keys) t (t + 1) (by omega) ht (by omega)
theorem AInv.kept {D A : DH} (h : AInv D A) {s : ByteArray} (hs : 1 ≤ s.size) {k : Nat} (hk : k < (keepL s (rowsQ A)).length) :
    ((keepL s (rowsQ A)).getD k acc0).party = s ∧ (validB ((keepL s (rowsQ A)).getD k acc0).name = true ∨ ((keepL s (rowsQ A)).getD k acc0).name = bank) ∧ ((keepL s (rowsQ A)).getD k acc0).name.size ≤ 12 := by
  have e : (keepL s (rowsQ A)).getD k acc0 = (keepL s (rowsQ A))[k] := by simp [List.getD, hk]
  rw [e]
  have hm : (keepL s (rowsQ A))[k] ∈ keepL s (rowsQ A) := List.getElem_mem hk
  generalize (keepL s (rowsQ A))[k] = x at hm
  rw [keepL, List.mem_filter, del_eq hs, decide_eq_true_eq] at hm
  obtain ⟨h1, h2⟩ := hm
  rw [rowsQ, List.mem_map] at h1
  obtain ⟨t, ht, rfl⟩ := h1
  obtain ⟨a, b, c, _⟩ := h.nm t ((mem_keysV h.keys t).1 ht)
  refine ⟨h2, ?_, ?_⟩
  · rw [a]; exact c
  · rw [a]; exact b

set_option maxRecDepth 100000 in
set_option maxHeartbeats 6400000 in
theorem RefOwn_walk (v : Value) (ps : List Pty) (u : Value) (qs : List Acc) (w : World) (hv : PtysAt w v ps) (hu : AccsAt w u qs) :
    Calls Try.prog 4 #[v, u] w fun e w' => e = .returned (.bool true) ∧ Below w.heap.size w w' := by
  obtain ⟨a, c, rfl, hlen, hwf, hcs⟩ := hv
  obtain ⟨a', c', rfl, hlen', hwf', hcs'⟩ := hu
  obtain ⟨n, hn⟩ : ∃ n, n = ps.length := ⟨_, rfl⟩
  obtain ⟨n', hn'⟩ : ∃ n', n' = qs.length := ⟨_, rfl⟩
  rw [← hn] at hlen ⊢
  rw [← hn'] at hlen' ⊢
  have HN := Lib.hid hn
  have HN' := Lib.hid hn'
  have HX := Lib.hid hcs
  have HX' := Lib.hid hcs'
  have HW := Lib.hid hwf
  have HW' := Lib.hid hwf'
  clear hn hn' hcs hcs' hwf hwf'
  by_cases hbig : 30 < n
  · have hbz : (30 : Int) < (n : Int) := by omega
    go_enter Try.func4, Try.ntmps4
    go_wp2_with fail
    refine (alive_any _).mono ?_
    rintro e w1 ⟨rfl, hb1⟩
    go_wp2
    go_ret
    exact ⟨rfl, hb1⟩
  · have hbz : ¬ (30 : Int) < (n : Int) := by omega
    by_cases hbig' : 30 < n'
    · have hbz' : (30 : Int) < (n' : Int) := by omega
      go_enter Try.func4, Try.ntmps4
      go_wp2_with fail
      refine (alive_any _).mono ?_
      rintro e w1 ⟨rfl, hb1⟩
      go_wp2
      go_ret
      exact ⟨rfl, hb1⟩
    · have hbz' : ¬ (30 : Int) < (n' : Int) := by omega
      go_enter Try.func4, Try.ntmps4
      go_wp2_with fail
      refine (new_any _).mono ?_
      rintro e w1 ⟨R, g, rfl, hr⟩
      have HR1 := Lib.hid hr
      clear hr
      go_wp2_with fail
      go_loopw [6] (fun i wr => ∃ k : Nat, i = .int .i64 k ∧ k ≤ n ∧ Hid (∃ D, RefIn w wr R g ⟨D, dat0.a, dat0.s⟩ ∧ PInv D ∧ hasV D bank = true)) (fun i _ => (n - RowKit.intOf i).toNat)
      case atStart => exact ⟨0, rfl, Nat.zero_le _, Lib.hid ⟨_, HR1.out, PInv.start, bank_start⟩⟩
      case round =>
        obtain ⟨k, rfl, hk, HK⟩ := hrel
        by_cases hlt : k < n
        · have hltz : (k : Int) < (n : Int) := by omega
          have h2 : k < ps.length := by rw [← HN.out]; exact hlt
          obtain ⟨b, off, rfl, hbl, c0, c1⟩ := Pty_cells HX.out (k := k) h2
          have hwfx := HW.out (ps.getD k pty0) (by rw [show ps.getD k pty0 = ps[k] by simp [List.getD, h2]]; exact List.getElem_mem h2)
          obtain ⟨x, hx⟩ : ∃ x, x = ps.getD k pty0 := ⟨_, rfl⟩
          rw [← hx] at c0 c1 hwfx
          obtain ⟨D, hri, hpi, hbk⟩ := HK.out
          rw [← hri.bel.cell (p := ⟨b, _, none⟩) hbl] at c0 c1
          have HRI := Lib.hid hri
          have HWX := Lib.hid hwfx
          have HPI := Lib.hid hpi
          have HBK := Lib.hid hbk
          clear hx h2 hwfx hri hpi hbk
          go_wp2_with fail
          refine (addP_in _ [x] (HRI.out.step ((Below.refl _ _).alloc (Nat.le_refl _) _)) (pty1 _ _ _ rfl x HWX.out)).mono ?_
          rintro e w3 ⟨rfl, hr⟩
          have HNEXT := Lib.hid (show ∃ D, RefIn w w3 R g ⟨D, dat0.a, dat0.s⟩ ∧ PInv D ∧ hasV D bank = true from ⟨_, hr, HPI.out.step x, bank_step HPI.out.keys HBK.out x⟩)
          clear hr
          go_wp2
          go_roundw
          case rel => exact ⟨k + 1, by go_num, by omega, HNEXT⟩
          case measure => simp [RowKit.intOf]; omega
        · have hltz : ¬ (k : Int) < (n : Int) := by omega
          obtain ⟨D, hri, hpi, hbk⟩ := HK.out
          have HRI := Lib.hid hri
          have HPI := Lib.hid hpi
          have HAI := Lib.hid (AInv.start hbk)
          clear hri hpi hbk
          go_wp2_with fail
          go_loopw [7] (fun i wr => ∃ k : Nat, i = .int .i64 k ∧ k ≤ n' ∧ Hid (∃ A, RefIn w wr R g ⟨D, A, dat0.s⟩ ∧ AInv D A)) (fun i _ => (n' - RowKit.intOf i).toNat)
          case atStart => exact ⟨0, rfl, Nat.zero_le _, Lib.hid ⟨_, HRI.out, HAI.out⟩⟩
          case round =>
            obtain ⟨k2, rfl, hk2, HK2⟩ := hrel
            by_cases hlt2 : k2 < n'
            · have hltz2 : (k2 : Int) < (n' : Int) := by omega
              have h2 : k2 < qs.length := by rw [← HN'.out]; exact hlt2
              obtain ⟨b, off, rfl, hbl, c0, c1⟩ := Acc_cells HX'.out (k := k2) h2
              have hwfx := HW'.out (qs.getD k2 acc0) (by rw [show qs.getD k2 acc0 = qs[k2] by simp [List.getD, h2]]; exact List.getElem_mem h2)
              obtain ⟨x, hx⟩ : ∃ x, x = qs.getD k2 acc0 := ⟨_, rfl⟩
              rw [← hx] at c0 c1 hwfx
              obtain ⟨A, hri, hai⟩ := HK2.out
              rw [← hri.bel.cell (p := ⟨b, _, none⟩) hbl] at c0 c1
              have HRI2 := Lib.hid hri
              have HWX := Lib.hid hwfx
              have HAI2 := Lib.hid hai
              clear hx h2 hwfx hri hai
              go_wp2_with fail
              refine (addQ_in _ [x] (HRI2.out.step ((Below.refl _ _).alloc (Nat.le_refl _) _)) (acc1 _ _ _ rfl x HWX.out)).mono ?_
              rintro e w3 ⟨rfl, hr⟩
              have HNEXT := Lib.hid (show ∃ A, RefIn w w3 R g ⟨D, A, dat0.s⟩ ∧ AInv D A from ⟨_, hr, HAI2.out.step x⟩)
              clear hr
              go_wp2
              go_roundw
              case rel => exact ⟨k2 + 1, by go_num, by omega, HNEXT⟩
              case measure => simp [RowKit.intOf]; omega
            · have hltz2 : ¬ (k2 : Int) < (n' : Int) := by omega
              obtain ⟨A, hri, hai⟩ := HK2.out
              have HRI2 := Lib.hid hri
              have HAI2 := Lib.hid hai
              have HFA := Lib.hid (fun s (h : hasV A s = true) => show s.size ≤ maxLen by have := (hai.nm s h).2.1; unfold maxLen; omega)
              have HNE := Lib.hid (show rowsQ A ≠ [] from fun e => by have := rowsQ_len A; rw [e] at this; have := hai.pos; simp at *; omega)
              have HQL := Lib.hid (show (rowsQ A).length ≤ 20 by rw [rowsQ_len]; exact hai.sz)
              clear hri hai
              go_wp2_with fail
              refine (allP_in HRI2.out (fun s h => by have := (HPI.out.nm s h).2.2; unfold maxLen; omega)).mono ?_
              rintro e wL ⟨vl, rfl, hol, hbl⟩
              have hpl : (rowsP D).length = Maps.size D := rowsP_len D
              obtain ⟨gl, cl, rfl, hgl, hcl⟩ := hol.names (by rw [hpl]; exact HPI.out.pos)
              obtain ⟨m, hm⟩ : ∃ m, m = (rowsP D).length := ⟨_, rfl⟩
              rw [← hm] at hcl ⊢
              have hmk : m = (keysV D).length := by rw [hm, hpl, keysV_length]
              have hm20 : m ≤ 20 := by rw [hm, hpl]; exact HPI.out.sz
              have HMK := Lib.hid hmk
              have HCL := Lib.hid hcl
              have HRL := Lib.hid (HRI2.out.step hbl)
              clear hol hbl hcl hm hmk hpl
              go_wp2_with fail
              go_loopw [9, 10] (fun s9 s10 wr => ∃ i : Nat, s9 = .int .i64 (psum (keysV D) (rowsQ A) i : Nat) ∧ s10 = .int .i64 i ∧ i ≤ m ∧ Below wL.heap.size wL wr) (fun _ i _ => (m - RowKit.intOf i).toNat)
              case atStart => exact ⟨0, rfl, rfl, Nat.zero_le _, Below.refl _ _⟩
              case round =>
                obtain ⟨i, rfl, rfl, him, hbw⟩ := hrel
                have HBW := Lib.hid hbw
                have hps : psum (keysV D) (rowsQ A) i ≤ 400 := by
                  have h1 := psum_le (ks := keysV D) (rows := rowsQ A) i
                  have h2 : i * (rowsQ A).length ≤ 20 * 20 := Nat.mul_le_mul (by omega) HQL.out
                  omega
                by_cases hlt3 : i < m
                · have hltz3 : (i : Int) < (m : Int) := by omega
                  have hik : i < (keysV D).length := by rw [← HMK.out]; exact hlt3
                  have l0 := HCL.out i hlt3
                  obtain ⟨hkn, hk1, hk12⟩ := HPI.out.key hik
                  rw [hkn, ← hbw.cell (p := ⟨gl, _, none⟩) hgl] at l0
                  have HPS := Lib.hid (psum_succ (rows := rowsQ A) hik)
                  obtain ⟨s, hs⟩ : ∃ s, s = (keysV D).getD i ByteArray.empty := ⟨_, rfl⟩
                  rw [← hs] at l0 hk1 hk12 HPS
                  have HSI := Lib.hid hs
                  have HK1 := Lib.hid hk1
                  have HRW := Lib.hid (HRL.out.step hbw)
                  have HACC := Lib.hid (acc_any s HRW.out HFA.out HNE.out (by have := HQL.out; show (rowsQ A).length ≤ 1000; omega))
                  simp only at HACC
                  obtain ⟨pi, hpi⟩ : ∃ pi, pi = psum (keysV D) (rowsQ A) i := ⟨_, rfl⟩
                  rw [← hpi] at hps HPS ⊢
                  have HPSI := Lib.hid hpi
                  clear hs hk1 hk12 hkn hbw hik hpi
                  go_wp2_with fail
                  refine HACC.out.mono ?_
                  rintro e w5 ⟨ao, co, rfl, hrow, hb5⟩
                  obtain ⟨q, hq⟩ : ∃ q, q = (keepL s (rowsQ A)).length := ⟨_, rfl⟩
                  rw [← hq] at HPS ⊢
                  have hq20 : q ≤ 20 := by
                    have : (keepL s (rowsQ A)).length ≤ (rowsQ A).length := List.length_filter_le _ _
                    have := HQL.out
                    omega
                  have HQQ := Lib.hid hq
                  have HROW := Lib.hid hrow
                  have HB5 := Lib.hid (HBW.out.trans (hb5.mono HBW.out.size))
                  clear hq hrow hb5 l0
                  go_wp2_with fail
                  go_loopw [12] (fun s12 wr => ∃ k : Nat, s12 = .int .i64 k ∧ k ≤ q ∧ Below w5.heap.size w5 wr) (fun s12 _ => (q - RowKit.intOf s12).toNat)
                  case atStart => exact ⟨0, rfl, Nat.zero_le _, Below.refl _ _⟩
                  case round =>
                    obtain ⟨k5, rfl, hk5, hbw5⟩ := hrel
                    have HBW5 := Lib.hid hbw5
                    have l0 : ∀ t, t < m → wr.cell? ⟨gl, t * 2, none⟩ = some (.string ((rowsP D).getD t pty0).name) := fun t ht => by
                      rw [hbw5.cell (p := ⟨gl, _, none⟩) (Nat.lt_of_lt_of_le hgl HB5.out.size), HB5.out.cell (p := ⟨gl, _, none⟩) hgl]
                      exact HCL.out t ht
                    have li := l0 i hlt3
                    rw [(HPI.out.key (by rw [← HMK.out]; exact hlt3)).1, ← HSI.out] at li
                    have HL0 := Lib.hid l0
                    clear l0
                    by_cases hlt5 : k5 < q
                    · have hltz5 : (k5 : Int) < (q : Int) := by omega
                      have h2 : k5 < (keepL s (rowsQ A)).length := by rw [← HQQ.out]; exact hlt5
                      obtain ⟨b, off, rfl, hbl, c0, c1⟩ : ∃ b off, ao = some ⟨b, off, none⟩ ∧ b < wr.heap.size ∧ wr.cell? ⟨b, off + k5 * 2, none⟩ = some (.string ((keepL s (rowsQ A)).getD k5 acc0).name) ∧ wr.cell? ⟨b, off + k5 * 2 + 1, none⟩ = some (.string ((keepL s (rowsQ A)).getD k5 acc0).party) := by
                        rcases HROW.out.below hbw5 with h | ⟨b, off, e, hb, hc⟩
                        · rw [h] at h2; simp at h2
                        · exact ⟨b, off, e, hb, hc k5 h2⟩
                      obtain ⟨e1, e2, e3⟩ := HAI2.out.kept HK1.out h2
                      rw [e1] at c1
                      obtain ⟨nm, hnm⟩ : ∃ nm, nm = ((keepL s (rowsQ A)).getD k5 acc0).name := ⟨_, rfl⟩
                      rw [← hnm] at c0 e2 e3
                      have HVQ := Lib.hid (valid_q nm (by omega))
                      have hne5 : ((bank.toList == bank.toList) = true) := by simp
                      clear e1 hnm h2 hbw5
                      cases hvb : validB nm with
                      | true =>
                        rw [hvb] at HVQ
                        clear hvb e2
                        go_wp2_with fail
                        go_quiet (first | (go_at_call 16; refine Calls.quiet_of_same (HVQ.out _)))
                        go_wp2
                        go_roundw
                        case rel => exact ⟨k5 + 1, by go_num, by omega, below_drewN HBW5.out _⟩
                        case measure => simp [RowKit.intOf]; omega
                      | false =>
                        rw [hvb] at HVQ
                        have hnb : nm = bank := by
                          rcases e2 with h | h
                          · rw [hvb] at h; cases h
                          · exact h
                        rw [hnb] at c0 HVQ
                        simp only [bank] at c0 HVQ
                        clear hvb e2
                        go_wp2_with fail
                        go_quiet (first | (go_at_call 16; refine Calls.quiet_of_same (HVQ.out _)))
                        go_wp2
                        go_roundw
                        case rel => exact ⟨k5 + 1, by go_num, by omega, below_drewN HBW5.out _⟩
                        case measure => simp [RowKit.intOf]; omega
                    · have hltz5 : ¬ (k5 : Int) < (q : Int) := by omega
                      have HB6 := Lib.hid (HB5.out.trans (hbw5.mono HB5.out.size))
                      clear hbw5
                      cases i with
                      | zero =>
                        go_wp2_with fail
                        go_quiet (fail)
                        go_wp2
                        go_roundw
                        case rel => exact ⟨1, by rw [HPS.out]; go_num, rfl, by omega, below_drewN HB6.out _⟩
                        case measure => simp [RowKit.intOf]; omega
                      | succ i =>
                        have lp := HL0.out i (by omega)
                        rw [(HPI.out.key (t := i) (by rw [← HMK.out]; omega)).1] at lp
                        have hcm := HPI.out.ahead (t := i) (by rw [← HMK.out]; exact hlt3)
                        rw [← HSI.out] at hcm
                        obtain ⟨s', hs'⟩ : ∃ s', s' = (keysV D).getD i ByteArray.empty := ⟨_, rfl⟩
                        rw [← hs'] at lp hcm
                        have HCQ := Lib.hid (cmp_q s' s)
                        rw [hcm] at HCQ
                        have hi0 : (0 : Int) < ((i + 1 : Nat) : Int) := by omega
                        clear hs' hcm
                        go_wp2_with fail
                        go_quiet (first | (go_at_call 17; refine Calls.quiet_of_same (HCQ.out _)))
                        go_wp2
                        go_roundw
                        case rel => exact ⟨i + 1 + 1, by rw [HPS.out]; go_num, by go_num, by omega, below_drewN HB6.out _⟩
                        case measure => simp [RowKit.intOf]; omega
                · have hltz3 : ¬ (i : Int) < (m : Int) := by omega
                  obtain rfl : i = m := by omega
                  have hpa : psum (keysV D) (rowsQ A) i = (rowsQ A).length := by
                    have := psum_all HPI.out HAI2.out
                    rw [← HMK.out] at this
                    exact this
                  rw [hpa]
                  have HRW := Lib.hid (HRL.out.step hbw)
                  obtain ⟨q, hq⟩ : ∃ q, q = (rowsQ A).length := ⟨_, rfl⟩
                  rw [← hq]
                  have hq20 : q ≤ 20 := by rw [hq]; exact HQL.out
                  have HQE := Lib.hid (show (keepL ⟨#[]⟩ (rowsQ A)).length = q by rw [keep_none, hq])
                  clear hpa hbw hps hq
                  go_wp2_with fail
                  refine (alive_any _).mono ?_
                  rintro e w6 ⟨rfl, hb6⟩
                  have HR6 := Lib.hid (HRW.out.step hb6)
                  clear hb6
                  go_wp2_with fail
                  refine (acc_any ⟨#[]⟩ HR6.out HFA.out HNE.out (by have := HQL.out; show (rowsQ A).length ≤ 1000; omega)).mono ?_
                  rintro e w7 ⟨ao, co, rfl, hrow, hb7⟩
                  rw [show (keepL ⟨#[]⟩ (rowsQ (Dat.a ⟨D, A, dat0.s⟩))).length = q from HQE.out]
                  have HR7 := Lib.hid (HR6.out.step hb7).bel
                  have hq20z : (q : Int) ≤ 20 := by omega
                  clear hrow hb7
                  go_wp2
                  go_ret
                  exact ⟨rfl, HR7.out⟩

end Go.Proofs.Ytohlmegbndgedaa
