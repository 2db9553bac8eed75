/-
  The walk of ValuePicks.
-/
import Derived.Test.YtnehamkpeeadjaaValP
import Derived.Deep.RegionHeld3
namespace Go.Proofs.Ytnehamkpeeadjaa
open Go.RowKit

/-- The stock at hand is the one that was picked. -/
def IsIt (x : Stk) (q : ByteArray × Int) : Prop := x.name = q.1 ∧ x.pledge = true ∧ 1 ≤ x.unit ∧ q.2 % x.unit = 0 ∧ q.2 ≤ x.qty ∧ 1 ≤ q.2

theorem found_next {want : Int} {l : List Stk} {p : List (ByteArray × Int)} {i a : Nat} {sum : Int} (d : Stk) (dq : ByteArray × Int) (hi : i < p.length) (h : Found want l p i a sum)
    (hd : ∀ j k, k < j → j < l.length → (l.getD j d).name ≠ (l.getD k d).name) :
    a < l.length ∧ (((l.getD a d).name ≠ (p.getD i dq).1 ∧ Found want l p i (a + 1) sum) ∨
      (IsIt (l.getD a d) (p.getD i dq) ∧ (worthF (p.getD i dq).2 (l.getD a d).price (l.getD a d).cut).2 = 0 ∧
        Found want l p (i + 1) (a + 1) (addF (sum + (worthF (p.getD i dq).2 (l.getD a d).price (l.getD a d).cut).1)).1)) := by
  obtain ⟨lack, h1, h2, h3, h4⟩ := h
  have hp : p.drop i = p.getD i dq :: p.drop (i + 1) := by
    rw [List.drop_eq_getElem_cons hi]
    simp [List.getD, hi]
  rw [hp] at h1
  have ha : a < l.length := by
    rcases Nat.lt_or_ge a l.length with h | h
    · exact h
    · rw [List.drop_eq_nil_of_le h] at h1
      simp [pickF] at h1
  refine ⟨ha, ?_⟩
  rw [drop_cons ha d] at h1
  obtain ⟨hl, hs | hs⟩ := pick_step h1
  · right
    obtain ⟨g1, g2, g3⟩ := hs
    obtain ⟨m1, m2, m3⟩ := much_pos _ _ g1
    obtain ⟨k1, k2, k3⟩ := ok_yes m1
    have hb := pickQ_bd (lack := lack) m1
    rw [← m2] at hb
    rw [g2]
    have hmw := much_bd lack (l.getD a d)
    generalize muchF lack (l.getD a d) = mm at *
    refine ⟨⟨rfl, k1, k2, hb.2.2, hb.2.1, by simp only; omega⟩, by simp only; rw [m3], ?_⟩
    · refine ⟨_, g3, ?_, ?_⟩
      · simp only; rw [m3]
        unfold addF
        by_cases hc : sum + mm.2 ≤ 1152921504606846976
        · rw [if_pos ⟨by simp only; omega, by simpa using hc⟩]
          simp only
          omega
        · rw [if_neg (by simp only; omega), if_neg (by simp only; omega)]
          simp
      · simp only; rw [m3]
        unfold addF
        by_cases hc : sum + mm.2 ≤ 1152921504606846976
        · rw [if_pos ⟨by simp only; omega, by simpa using hc⟩]
          simp only
          omega
        · rw [if_neg (by simp only; omega), if_neg (by simp only; omega)]
          simp
  · left
    obtain ⟨_, g⟩ := hs
    refine ⟨?_, lack, by rw [g, hp], h2, h3, h4⟩
    have hq : p.getD i dq ∈ (pickF lack (l.drop (a + 1))).1 := by rw [g]; exact List.mem_cons_self ..
    obtain ⟨y, hy, e⟩ := pick_names _ _ _ hq
    rw [← e]
    obtain ⟨j, hj, rfl⟩ := List.mem_iff_getElem.1 hy
    rw [List.length_drop] at hj
    rw [List.getElem_drop]
    have := hd (a + 1 + j) a (by omega) (by omega)
    rw [show l[a + 1 + j] = l.getD (a + 1 + j) d by simp [List.getD, show a + 1 + j < l.length by omega]]
    exact fun h => this h.symm

/-- The names of the first ones differ. -/
def Apart2 (xs : List Stk) (i : Nat) : Prop := ∀ j k, k < j → j < i → (xs.getD j stk0).name ≠ (xs.getD k stk0).name
def Apart1 (xs : List Stk) (i k : Nat) : Prop := ∀ j, j < k → (xs.getD i stk0).name ≠ (xs.getD j stk0).name
theorem apart_zero (xs : List Stk) : Apart2 xs 0 := fun j k _ h => by omega
theorem apart1_zero (xs : List Stk) (i : Nat) : Apart1 xs i 0 := fun j h => by omega
theorem apart_next {xs : List Stk} {i : Nat} (h : Apart2 xs i) (h1 : Apart1 xs i i) : Apart2 xs (i + 1) := fun j k hk hj => by
  by_cases e : j = i
  · subst e; exact h1 k hk
  · exact h j k hk (by omega)
theorem apart1_next {xs : List Stk} {i k : Nat} (h : Apart1 xs i k) (h1 : (xs.getD i stk0).name ≠ (xs.getD k stk0).name) : Apart1 xs i (k + 1) := fun j hj => by
  by_cases e : j = k
  · subst e; exact h1
  · exact h j (by omega)

theorem str_ne {s t : ByteArray} (h : s ≠ t) : (s.toList == t.toList) = false := by
  refine beq_eq_false_iff_ne.2 fun e => h ?_
  rw [ByteArray.toList_eq, ByteArray.toList_eq] at e
  exact ByteArray.ext (Array.ext' e)
theorem str_ne' {s t : ByteArray} (h : s ≠ t) : (s.toList != t.toList) = true := by
  rw [bne, str_ne h]; rfl

theorem addW_mark {g : Nat} {S : Int} {W : World} {o : Bool} (h : MarkAt W g o) : ∃ o', MarkAt (AddW g S W) g o' := by
  unfold AddW
  cases (addF S).2 with
  | false => exact ⟨o, h⟩
  | true => exact ⟨true, World.cell?_setCell_same _ _ _ h.1, by simp [h.2]⟩
theorem addW_below {B g : Nat} {S : Int} {w0 W : World} (h : Below B w0 W) (hg : B ≤ g) : Below B w0 (AddW g S W) := by
  unfold AddW
  cases (addF S).2 with
  | false => exact h
  | true => exact h.setCell hg _
theorem addW_size (g : Nat) (S : Int) (W : World) : (AddW g S W).heap.size = W.heap.size := by
  unfold AddW
  cases (addF S).2 <;> simp
theorem mark_al {W : World} {g : Nat} {o : Bool} (h : MarkAt W g o) (hg : g < W.heap.size) (ob : Obj) : MarkAt (W.alloc ob) g o := ⟨cell_al h.1 hg, frz_al h.2 hg⟩
theorem mark_below {W W' : World} {g : Nat} {o : Bool} (h : MarkAt W g o) (hg : g < W.heap.size) (hb : Below W.heap.size W W') : MarkAt W' g o :=
  ⟨(hb.cell (p := ⟨g, 0, none⟩) hg).trans h.1, (hb.frozen (p := ⟨g, 0, none⟩) hg).trans h.2⟩

set_option maxRecDepth 100000 in
set_option maxHeartbeats 3200000 in
theorem ValuePicks_walk (want : Int) (v : Value) (xs : List Stk) (w : World) (hw : (Lit.int .i64 want).wf = true) (hv : StocksAt w v xs) :
    Calls Try.prog 3 #[.int .i64 want, v] w fun e w' => e = .returned (.bool true) ∧ Below w.heap.size w w' := by
  have HI := Lib.hid (i64_of hw)
  have HV := Lib.hid hv
  clear hw
  obtain ⟨a, c, rfl, hlen, hwf, hcs⟩ := hv
  obtain ⟨n, hn⟩ : ∃ n, n = xs.length := ⟨_, rfl⟩
  rw [← hn] at hlen HV ⊢
  have HN := Lib.hid hn
  have HX := Lib.hid hcs
  have HW := Lib.hid hwf
  clear hn hcs hwf
  by_cases hg : 40 < n
  · have hg2 : decide ((40 : Int) < (n : Int)) = true := by simp; omega
    go_enter Try.func3, Try.ntmps3
    go_wp2_with (go_at_call 7; refine (alive_any _).mono ?_; rintro e w2 ⟨rfl, hb2⟩)
    go_ret
    exact ⟨rfl, hb2⟩
  have hg2 : decide ((40 : Int) < (n : Int)) = false := by simp; omega
  by_cases hw1 : 1152921504606846976 < want
  · have hw2 : decide (1152921504606846976 < want) = true := by simpa using hw1
    go_enter Try.func3, Try.ntmps3
    go_wp2_with (go_at_call 7; refine (alive_any _).mono ?_; rintro e w2 ⟨rfl, hb2⟩)
    go_ret
    exact ⟨rfl, hb2⟩
  have hw2 : decide (1152921504606846976 < want) = false := by simpa using hw1
  have HW1 := Lib.hid (show want ≤ 1152921504606846976 by omega)
  clear hw1
  go_enter Try.func3, Try.ntmps3
  go_wp2_with fail
  go_loopw [5] (fun s wr => ∃ i : Nat, s = .int .i64 i ∧ i ≤ n ∧ Hid (Apart2 xs i) ∧ Below w.heap.size w wr) (fun s _ => (n - RowKit.intOf s).toNat)
  case atStart => exact ⟨0, rfl, Nat.zero_le _, Lib.hid (apart_zero xs), Below.refl _ _⟩
  case round =>
    obtain ⟨i, rfl, hi, HA, hbw⟩ := hrel
    have HB := Lib.hid hbw
    by_cases hlt : i < n
    · have hltz : (i : Int) < (n : Int) := by omega
      have hi0 : (0 : Int) ≤ (i : Int) := by omega
      have h2 : i < xs.length := by rw [← HN.out]; exact hlt
      obtain ⟨b, off, rfl, hbl, c0, _⟩ := stk_cells HX.out (k := i) h2
      have HC0 := Lib.hid c0
      have HBL := Lib.hid hbl
      clear c0 h2 hbw
      obtain ⟨wo, rfl⟩ : ∃ wo : World, wo = wr := ⟨_, rfl⟩
      go_wp2_with fail
      go_loopw [6] (fun s wi => ∃ k : Nat, s = .int .i64 k ∧ k ≤ i ∧ Hid (Apart1 xs i k) ∧ Below w.heap.size w wi) (fun s _ => (i - RowKit.intOf s).toNat)
      case atStart => exact ⟨0, rfl, Nat.zero_le _, Lib.hid (apart1_zero xs i), HB.out⟩
      case round =>
        obtain ⟨k, rfl, hk, HA1, hbi⟩ := hrel
        have HBI := Lib.hid hbi
        by_cases hlk : k < i
        · have hlkz : (k : Int) < (i : Int) := by omega
          have hlkn : (k : Int) < (n : Int) := by omega
          have hk0 : (0 : Int) ≤ (k : Int) := by omega
          have c0 := HC0.out
          rw [← HBI.out.cell (p := ⟨b, _, none⟩) HBL.out] at c0
          have h3 : k < xs.length := by rw [← HN.out]; omega
          obtain ⟨b', off', hbe, _, d0, _⟩ := stk_cells HX.out (k := k) h3
          simp at hbe
          obtain ⟨rfl, rfl⟩ := hbe
          rw [← HBI.out.cell (p := ⟨b, _, none⟩) HBL.out] at d0
          have hnx := fun h => apart1_next HA1.out h
          obtain ⟨s, hs⟩ : ∃ s, s = (xs.getD i stk0).name := ⟨_, rfl⟩
          obtain ⟨t, ht⟩ : ∃ t, t = (xs.getD k stk0).name := ⟨_, rfl⟩
          rw [← hs] at c0 hnx
          rw [← ht] at d0 hnx
          clear hs ht h3 hbi
          by_cases hst : s = t
          · subst hst
            have hnx' := Lib.hid hnx
            clear hnx
            go_wp2_with fail
            go_quiet (fail)
            go_wp2_with (go_at_call 7; refine (alive_any _).mono ?_; rintro e w2 ⟨rfl, hb2⟩)
            go_ret
            exact ⟨rfl, (below_drewN HBI.out _).trans (hb2.mono (below_drewN HBI.out _).size)⟩
          · have HNX := Lib.hid (hnx hst)
            have hsb := str_ne hst
            clear hnx hst
            go_wp2_with fail
            go_quiet (fail)
            go_wp2_with fail
            go_roundw
            case rel => exact ⟨k + 1, by go_num, by omega, HNX, below_drewN HBI.out _⟩
            case measure => simp [RowKit.intOf]; omega
        · have hlkz : ¬ (k : Int) < (i : Int) := by omega
          obtain rfl : k = i := by omega
          have HNA := Lib.hid (apart_next HA.out HA1.out)
          go_wp2_with fail
          go_roundw
          case rel => exact ⟨k + 1, by go_num, by omega, HNA, HBI.out⟩
          case measure => simp [RowKit.intOf]; omega
    · have hltz : ¬ (i : Int) < (n : Int) := by omega
      obtain rfl : i = n := by omega
      have HV1 := Lib.hid (HV.out.below HB.out)
      have HAP := Lib.hid HA.out
      clear hbw hi
      go_wp2_with fail
      refine (pick_any want _ xs wr HV1.out HI.out).mono ?_
      rintro e w1 ⟨hb1, v1, k1, rfl, hp1⟩
      have HB1 := Lib.hid (HB.out.trans (hb1.mono HB.out.size))
      clear hb1
      rcases hp1 with ⟨hneg, rfl, rfl⟩ | ⟨hpos, _, rfl, rfl⟩ | ⟨hpos, hfin, hown, rfl⟩
      · have hd : decide (want < 0) = true := by simpa using hneg
        go_wp2_with (go_at_call 7; refine (alive_any _).mono ?_; rintro e w2 ⟨rfl, hb2⟩)
        go_ret
        exact ⟨rfl, HB1.out.trans (hb2.mono HB1.out.size)⟩
      · have hd : decide (want < 0) = false := by simpa using hpos
        go_wp2_with (go_at_call 7; refine (alive_any _).mono ?_; rintro e w2 ⟨rfl, hb2⟩)
        go_ret
        exact ⟨rfl, HB1.out.trans (hb2.mono HB1.out.size)⟩
      · have HFS := Lib.hid (found_start want xs)
        have HFIN := Lib.hid hfin
        have hpl := pl_at hown
        obtain ⟨ps, hps⟩ : ∃ ps, ps = (pickF want xs).1 := ⟨_, rfl⟩
        rw [← hps] at hpl HFS
        have hlen2 := pick_len xs want
        rw [← hps, ← HN.out] at hlen2
        obtain ⟨a1, c1, rfl, hc1⟩ := hpl
        obtain ⟨L, hL⟩ : ∃ L, L = ps.length := ⟨_, rfl⟩
        rw [← hL] at hlen2 ⊢
        have HL := Lib.hid hL
        have HC1 := Lib.hid hc1
        obtain ⟨fin, hfe⟩ : ∃ fin, fin = (pickF want xs).2 := ⟨_, rfl⟩
        have hL2 : L ≤ 40 := by omega
        have HM1 := Lib.hid (show MarkAt (w1.alloc (.cells #[.bool false] 34)) w1.heap.size false from ⟨by simp, by simp⟩)
        clear hps hL hc1 hown hfin hlen2 hfe hpos
        go_wp2_with fail
        go_loopw [9, 10, 12] (fun s t r wr => ∃ (i at0 : Nat) (sum : Int) (o : Bool), s = .int .i64 at0 ∧ t = .int .i64 sum ∧ r = .int .i64 i ∧ i ≤ L ∧ Hid (Found want xs ps i at0 sum) ∧ Hid (MarkAt wr w1.heap.size o) ∧ w1.heap.size < wr.heap.size ∧ Below w1.heap.size w1 wr) (fun _ _ r _ => (L - RowKit.intOf r).toNat)
        case atStart => exact ⟨0, 0, 0, false, rfl, rfl, rfl, Nat.zero_le _, HFS, HM1, by simp, (Below.refl _ _).alloc (Nat.le_refl _) _⟩
        case round =>
          obtain ⟨j, at0, sum, o, rfl, rfl, rfl, hj, HF, HM, hsz, hbw⟩ := hrel
          have HB2 := Lib.hid hbw
          by_cases hlj : j < L
          · have hljz : (j : Int) < (L : Int) := by omega
            have hj0 : (0 : Int) ≤ (j : Int) := by omega
            have h2 : j < ps.length := by rw [← HL.out]; exact hlj
            obtain ⟨g, off2, rfl, hgl, hcc⟩ : ∃ g off, a1 = some ⟨g, off, none⟩ ∧ g < w1.heap.size ∧ (w1.cell? ⟨g, off + j * 2, none⟩ = some (.string (ps.getD j (ByteArray.empty, 0)).1) ∧ w1.cell? ⟨g, off + j * 2 + 1, none⟩ = some (.int .i64 (ps.getD j (ByteArray.empty, 0)).2)) := by
              rcases HC1.out with h | ⟨g, off, e, hg, hc⟩
              · rw [h] at h2; simp at h2
              · exact ⟨g, off, e, hg, hc j h2⟩
            have HCC := Lib.hid hcc
            have HGL := Lib.hid hgl
            clear hcc hgl hbw
            obtain ⟨wo, rfl⟩ : ∃ wo : World, wo = wr := ⟨_, rfl⟩
            go_wp2_with fail
            go_loopw [9] (fun s wi => ∃ at1 : Nat, s = .int .i64 at1 ∧ Hid (Found want xs ps j at1 sum) ∧ Hid (MarkAt wi w1.heap.size o) ∧ w1.heap.size < wi.heap.size ∧ Below w1.heap.size w1 wi) (fun s _ => (i - RowKit.intOf s).toNat)
            case atStart => exact ⟨at0, rfl, HF, HM, hsz, HB2.out⟩
            case round =>
              obtain ⟨at1, rfl, HF1, HM1', hsz1, hbi⟩ := hrel
              have HBI := Lib.hid hbi
              clear hbi
              obtain ⟨hat, halt⟩ := found_next stk0 (ByteArray.empty, 0) h2 HF1.out (fun j k hk hj => HAP.out j k hk (by rw [HN.out]; exact hj))
              obtain ⟨b, off, rfl, hbl, c0, c1', c2, c3, c4, c5, c6, c7, c8⟩ := stk_cells HX.out (k := at1) hat
              rw [← HN.out] at hat
              have hatz : (at1 : Int) < (i : Int) := by omega
              have hat0 : (0 : Int) ≤ (at1 : Int) := by omega
              have hbb := HB1.out.trans (HBI.out.mono HB1.out.size)
              rw [← hbb.cell (p := ⟨b, _, none⟩) hbl] at c0 c2 c3 c5 c6 c8
              have p0 := HCC.out.1
              have p1 := HCC.out.2
              rw [← HBI.out.cell (p := ⟨g, _, none⟩) HGL.out] at p0 p1
              obtain ⟨q, hq⟩ : ∃ q, q = ps.getD j (ByteArray.empty, 0) := ⟨_, rfl⟩
              rw [← hq] at p0 p1 halt
              have hwfx := HW.out (xs.getD at1 stk0) (by
                have h2 : at1 < xs.length := by rw [← HN.out]; exact hat
                rw [show xs.getD at1 stk0 = xs[at1] by simp [List.getD, h2]]; exact List.getElem_mem h2)
              obtain ⟨s, hs⟩ : ∃ s, s = xs.getD at1 stk0 := ⟨_, rfl⟩
              rw [← hs] at c0 c2 c3 c5 c6 c8 halt hwfx
              have HWX := Lib.hid hwfx
              clear hq hs c1' c4 c7 hbb hwfx
              rcases halt with ⟨hne, hf⟩ | ⟨⟨i1, i2, i3, i4, i5, i6⟩, hwz, hf⟩
              · have hne' := str_ne' hne
                have hne1 := str_ne hne
                have hne2 : ¬ s.name.toList = q.1.toList := by simpa using hne1
                have HF2 := Lib.hid hf
                clear hne hf p1 c2 c3 c5 c6 c8 h2
                go_wp2_with fail
                go_quiet (fail)
                go_wp2_with fail
                go_roundw
                case rel => exact ⟨at1 + 1, by go_num, HF2, HM1', hsz1, below_drewN HBI.out _⟩
                case measure => simp [RowKit.intOf]; omega
              · rw [i1] at c0
                rw [i2] at c2
                have hq1 : i64 q.2 := by have h1 := HWX.out.2.2.2.2.2; unfold i64 at h1 ⊢; omega
                have hu1 : decide (s.unit < 1) = false := by simp; omega
                have hu2 : (s.unit == 0) = false := by simp; omega
                have htm : q.2.tmod s.unit = 0 := by rw [Int.tmod_eq_emod_of_nonneg (by omega)]; exact i4
                have hqt : decide (s.qty < q.2) = false := by simp; omega
                have hq2 : decide (q.2 < 1) = false := by simp; omega
                have hs0 : (q.1.toList == q.1.toList) = true := by simp
                have hat2 : ((at1 : Int) == (i : Int)) = false := by simp; omega
                have HWO := Lib.hid (fun W => worth_any q.2 s.price s.cut W (i64_wf hq1) (i64_wf HWX.out.2.2.1))
                have hwb := worth_bd q.2 s.price s.cut
                obtain ⟨y, hy⟩ : ∃ y, y = worthF q.2 s.price s.cut := ⟨_, rfl⟩
                rw [← hy] at HWO hf hwz hwb
                obtain ⟨y1, y2⟩ := y
                obtain rfl : y2 = 0 := hwz
                have HF2 := Lib.hid hf
                have HY := Lib.hid hwb
                have HSUM := Lib.hid HF1.out
                clear hy hwb hf i1 i2 i4 i5 hq1 h2 HF HF1
                go_wp2_with fail
                go_quiet (fail)
                go_wp2_with fail
                have hS : ∀ W W' : World, Below W.heap.size W W' → w1.heap.size < W.heap.size → b < w1.heap.size →
                    (W.cell? ⟨g, off2 + j * 2 + 1, none⟩ = some (.int .i64 q.2) ∧ W.cell? ⟨b, off + at1 * 9 + 5, none⟩ = some (.int .i64 s.price) ∧ W.cell? ⟨b, off + at1 * 9 + 6, none⟩ = some (.int .i64 s.cut)) →
                    (W'.cell? ⟨g, off2 + j * 2 + 1, none⟩ = some (.int .i64 q.2) ∧ W'.cell? ⟨b, off + at1 * 9 + 5, none⟩ = some (.int .i64 s.price) ∧ W'.cell? ⟨b, off + at1 * 9 + 6, none⟩ = some (.int .i64 s.cut)) := fun W W' hb hz hbb h =>
                  ⟨(hb.cell (p := ⟨g, _, none⟩) (by have := HGL.out; show g < _; omega)).trans h.1, (hb.cell (p := ⟨b, _, none⟩) (by show b < _; omega)).trans h.2.1, (hb.cell (p := ⟨b, _, none⟩) (by show b < _; omega)).trans h.2.2⟩
                go_region_held3 (fun w' => w'.cell? ⟨g, off2 + j * 2 + 1, none⟩ = some (.int .i64 q.2) ∧ w'.cell? ⟨b, off + at1 * 9 + 5, none⟩ = some (.int .i64 s.price) ∧ w'.cell? ⟨b, off + at1 * 9 + 6, none⟩ = some (.int .i64 s.cut)) (first | exact HS6.out | go_keep)
                  ((go_at_call 9; refine (HWO.out _).mono ?_; rintro e w6 ⟨rfl, hb6⟩; have HS6 := Lib.hid (hS _ _ hb6 (by simpa using hsz1) (by have := HB1.out.size; omega) (by simp [*])); have HB6 := Lib.hid hb6; clear hb6))
                have hmk : MarkAt w6 w1.heap.size o := mark_below (by simpa [MarkAt] using HM1'.out) (by simpa using hsz1) HB6.out
                have hbw6 : Below w1.heap.size w1 w6 := (below_drewN HBI.out _).trans (HB6.out.mono (by have := HBI.out.size; simpa using this))
                have hsz6 : w1.heap.size < w6.heap.size := by have := HB6.out.size; simp at this; omega
                have hsum : i64 sum := by obtain ⟨_, _, _, h1, h2⟩ := HSUM.out; unfold i64; omega
                have hy1 : i64 y1 := by have h1 := HY.out; unfold i64; omega
                have HA2 := Lib.hid (fun W (hm : MarkAt W w1.heap.size o) vv (hvv : IntsAt W vv [sum, y1]) => add_any w1.heap.size o vv [sum, y1] W hm hvv)
                have HIN := Lib.hid (fun (W : World) t => ints_two (w := W) hsum hy1 t)
                have es : [sum, y1].sum = sum + y1 := by simp
                rw [es] at HA2
                have HMK := Lib.hid (fun ob => mark_al hmk hsz6 ob)
                have HBW6 := Lib.hid hbw6
                clear es hsum hy1 hmk hbw6 hS p0 p1 c0 c2 c3 c5 c6 c8
                go_wp2_with fail
                refine (HA2.out _ (HMK.out _) _ (HIN.out _ _)).mono ?_
                rintro e w7 ⟨rfl, hw7⟩
                have hb7 : Below w1.heap.size w1 w7 := by rw [hw7]; exact addW_below (HBW6.out.alloc HBW6.out.size _) (Nat.le_refl _)
                have hs7 : w1.heap.size < w7.heap.size := by rw [hw7, addW_size]; simp; omega
                obtain ⟨o', hm7⟩ : ∃ o', MarkAt w7 w1.heap.size o' := by rw [hw7]; exact addW_mark (HMK.out _)
                have HM7 := Lib.hid hm7
                have HB7 := Lib.hid hb7
                clear hw7 hm7 hb7
                go_wp2_with fail
                go_roundw
                case rel => exact ⟨j + 1, at1 + 1, _, o', by go_num, rfl, by go_num, by omega, HF2, HM7, hs7, HB7.out⟩
                case measure => simp [RowKit.intOf]; omega
          · have hljz : ¬ (j : Int) < (L : Int) := by omega
            obtain rfl : j = L := by omega
            have hle : want ≤ sum := found_end (by have := HF.out; rw [HL.out] at this; exact this) HFIN.out HW1.out
            have hld : decide (want ≤ sum) = true := by simpa using hle
            clear hle
            go_wp2_with (go_at_call 7; refine (alive_any _).mono ?_; rintro e w2 ⟨rfl, hb2⟩)
            go_ret
            have hb0 := HB1.out.trans (HB2.out.mono HB1.out.size)
            exact ⟨rfl, hb0.trans (hb2.mono hb0.size)⟩

end Go.Proofs.Ytnehamkpeeadjaa
