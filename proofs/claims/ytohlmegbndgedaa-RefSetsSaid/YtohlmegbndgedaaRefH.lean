/-
  ref: the walk of RefSets.
-/
import Derived.Test.YtohlmegbndgedaaRefG
namespace Go.Proofs.Ytohlmegbndgedaa
open Go.RowKit Go.Maps Go.WideMaps Held

theorem ast2 (w : World) (t : TypeId) (b : Nat) (hb : w.heap.size = b) (x y : Ast) (hx : x.wf) (hy : y.wf) : AstsAt (w.alloc (.cells #[.string x.name, .bool x.cash, .bool x.pledge, .int .i64 x.unit, .int .i64 x.least, .int .i64 x.price, .int .i64 x.cut, .int .i64 x.close, .string y.name, .bool y.cash, .bool y.pledge, .int .i64 y.unit, .int .i64 y.least, .int .i64 y.price, .int .i64 y.cut, .int .i64 y.close] t)) (.slice (some ⟨b, 0, none⟩) 2 2) [x, y] := by
  subst hb
  refine ⟨_, 2, rfl, by simp, fun z hz => by simp at hz; rcases hz with rfl | rfl <;> assumption, .inr ⟨_, 0, rfl, by simp, fun i j hi hj => ?_⟩⟩
  have hi2 : i = 0 ∨ i = 1 := by simp at hi; omega
  rw [cell_of_row _ _ _ _ t (0, 0) (heap_alloc_new w _)]
  rcases hi2 with rfl | rfl <;> match j, hj with
  | 0, _ => rfl
  | 1, _ => rfl
  | 2, _ => rfl
  | 3, _ => rfl
  | 4, _ => rfl
  | 5, _ => rfl
  | 6, _ => rfl
  | 7, _ => rfl

theorem getP_in2 {w0 w : World} {R g : Nat} {d : Dat} (s : ByteArray) (h : RefIn w0 w R g d) (hs : s.size ≤ maxLen) :
    Calls Try.prog 21 #[.pointer (some ⟨R, 0, none⟩), .string s] w fun e w' => e = .returned (.tuple #[(getP d.p s).val, .bool (hasV d.p s)]) ∧ Below w.heap.size w w' := by
  obtain ⟨p, q, r, h1, _⟩ := h.ex
  exact getP_any s w h1 hs
theorem getS_in2 {w0 w : World} {R g : Nat} {d : Dat} (s : ByteArray) (h : RefIn w0 w R g d) (hs : s.size ≤ maxLen) :
    Calls Try.prog 20 #[.pointer (some ⟨R, 0, none⟩), .string s] w fun e w' => e = .returned (.tuple #[(getS d.s s).val, .bool (hasV d.s s)]) ∧ Below w.heap.size w w' := by
  obtain ⟨p, q, r, h1, _⟩ := h.ex
  exact getS_any s w h1 hs

theorem cell_al {w : World} {k j : Nat} {v : Value} {o : Obj} (h : w.cell? ⟨k, j, none⟩ = some v) (hk : k < w.heap.size) : (w.alloc o).cell? ⟨k, j, none⟩ = some v := by
  rw [World.cell?_of_block (a := ⟨k, j, none⟩) (Below.heap_alloc w o k hk)]; exact h

def p7 : Pty := ⟨⟨#[80]⟩, 7⟩
def p8 : Pty := ⟨⟨#[81]⟩, 8⟩
def sX : Ast := ⟨⟨#[88]⟩, false, false, 1, 1, 5, 0, 0⟩
def sE : Ast := ⟨⟨#[69, 85, 82]⟩, true, false, 1, 1, 0, 0, 0⟩
def setsP : DH := putV (putV dat0.p ⟨#[80]⟩ (Pty.val p7)) ⟨#[81]⟩ (Pty.val p8)
def setsS : DH := putV (putV dat0.s ⟨#[88]⟩ (Ast.val sX)) ⟨#[69, 85, 82]⟩ (Ast.val sE)
theorem sets_p : addL Pty.name Pty.val aheadP behindP 20 dat0.p dat0.p [p7, p8] = (setsP, 0) := by kernel_rfl
theorem sets_s : addL Ast.name Ast.val aheadS behindS 12 dat0.s dat0.s [sX, sE] = (setsS, 0) := by kernel_rfl

/-- What the price is, and why it is not set. -/
structure PriceIs (n : Int) (E : Int) (D : DH) (pr : Int) : Prop where
  why : (E = 0 ∧ 0 ≤ n ∧ n ≤ 1099511627776 ∧ pr = n) ∨ (E = 1 ∧ n < 0 ∧ pr = 5) ∨ (E = 1 ∧ 1099511627776 < n ∧ pr = 5)
  at0 : getS D ⟨#[88]⟩ = ⟨⟨#[88]⟩, false, false, 1, 1, pr, 0, 0⟩
  has : hasV D ⟨#[69, 85, 82]⟩ = true
  at1 : getS D ⟨#[69, 85, 82]⟩ = sE
  no : hasV D ⟨#[89]⟩ = false
  noAt : getS D ⟨#[89]⟩ = ast0
  sz : Maps.size D = 2
structure LimitIs (n : Int) (E : Int) (D : DH) (li : Int) : Prop where
  why : (E = 0 ∧ 0 ≤ n ∧ n ≤ 1152921504606846976 ∧ li = n) ∨ (E = 1 ∧ n < 0 ∧ li = 7) ∨ (E = 1 ∧ 1152921504606846976 < n ∧ li = 7)
  at0 : getP D ⟨#[80]⟩ = ⟨⟨#[80]⟩, li⟩
  at1 : getP D ⟨#[81]⟩ = p8
  no : hasV D ⟨#[82]⟩ = false
  noAt : getP D ⟨#[82]⟩ = pty0
  sz : Maps.size D = 3

theorem sets_price (n : Int) : ∃ pr, PriceIs n (priceE setsS ⟨#[88]⟩ n) (priceD setsS ⟨#[88]⟩ n) pr := by
  have h0 : hasV setsS ⟨#[88]⟩ = true := by kernel_rfl
  have h1 : (getS setsS ⟨#[88]⟩).cash = false := by kernel_rfl
  have hx : getS setsS ⟨#[88]⟩ = sX := by kernel_rfl
  by_cases h : 0 ≤ n ∧ n ≤ 1099511627776
  · have hb : inB n 0 1099511627776 = true := by simp [inB, h.1, h.2]
    have e : priceE setsS ⟨#[88]⟩ n = 0 := by rw [priceE, h0, hb, h1]; rfl
    have e2 : priceD setsS ⟨#[88]⟩ n = putV setsS ⟨#[88]⟩ (Ast.val ⟨⟨#[88]⟩, false, false, 1, 1, n, 0, 0⟩) := by rw [priceD, if_pos e, hx]; rfl
    rw [e, e2]
    exact ⟨n, .inl ⟨rfl, h.1, h.2, rfl⟩, rfl, rfl, rfl, rfl, rfl, rfl⟩
  · have hb : inB n 0 1099511627776 = false := by simp [inB]; omega
    have e : priceE setsS ⟨#[88]⟩ n = 1 := by rw [priceE, h0, hb]; rfl
    have e2 : priceD setsS ⟨#[88]⟩ n = setsS := by rw [priceD, e]; rfl
    rw [e, e2]
    have : n < 0 ∨ 1099511627776 < n := by omega
    exact ⟨5, .inr (this.imp (fun h => ⟨rfl, h, rfl⟩) (fun h => ⟨rfl, h, rfl⟩)), rfl, rfl, rfl, rfl, rfl, rfl⟩
theorem sets_limit (n : Int) : ∃ li, LimitIs n (limitE setsP ⟨#[80]⟩ n) (limitD setsP ⟨#[80]⟩ n) li := by
  have h0 : hasV setsP ⟨#[80]⟩ = true := by kernel_rfl
  have hx : getP setsP ⟨#[80]⟩ = p7 := by kernel_rfl
  by_cases h : 0 ≤ n ∧ n ≤ 1152921504606846976
  · have hb : inB n 0 1152921504606846976 = true := by simp [inB, h.1, h.2]
    have e : limitE setsP ⟨#[80]⟩ n = 0 := by rw [limitE, h0, hb]; rfl
    have e2 : limitD setsP ⟨#[80]⟩ n = putV setsP ⟨#[80]⟩ (Pty.val ⟨⟨#[80]⟩, n⟩) := by rw [limitD, if_pos e, hx]; rfl
    rw [e, e2]
    exact ⟨n, .inl ⟨rfl, h.1, h.2, rfl⟩, rfl, rfl, rfl, rfl, rfl⟩
  · have hb : inB n 0 1152921504606846976 = false := by simp [inB]; omega
    have e : limitE setsP ⟨#[80]⟩ n = 1 := by rw [limitE, h0, hb]; rfl
    have e2 : limitD setsP ⟨#[80]⟩ n = setsP := by rw [limitD, e]; rfl
    rw [e, e2]
    have : n < 0 ∨ 1152921504606846976 < n := by omega
    exact ⟨7, .inr (this.imp (fun h => ⟨rfl, h, rfl⟩) (fun h => ⟨rfl, h, rfl⟩)), rfl, rfl, rfl, rfl, rfl⟩

theorem price_eur {n o E pr : Int} {D : DH} (h : PriceIs n E D pr) : priceE D ⟨#[69, 85, 82]⟩ o = 1 ∧ priceD D ⟨#[69, 85, 82]⟩ o = D := by
  have e : priceE D ⟨#[69, 85, 82]⟩ o = 1 := by rw [priceE, h.has, h.at1, if_neg (by simp), if_pos (.inr rfl)]
  exact ⟨e, by rw [priceD, e]; rfl⟩
theorem price_y {n o E pr : Int} {D : DH} (h : PriceIs n E D pr) : priceE D ⟨#[89]⟩ o = 7 ∧ priceD D ⟨#[89]⟩ o = D := by
  have e : priceE D ⟨#[89]⟩ o = 7 := by rw [priceE, h.no]; rfl
  exact ⟨e, by rw [priceD, e]; rfl⟩
theorem limit_r {n o E li : Int} {D : DH} (h : LimitIs n E D li) : limitE D ⟨#[82]⟩ o = 7 ∧ limitD D ⟨#[82]⟩ o = D := by
  have e : limitE D ⟨#[82]⟩ o = 7 := by rw [limitE, h.no]; rfl
  exact ⟨e, by rw [limitD, e]; rfl⟩

set_option maxRecDepth 100000 in
set_option maxHeartbeats 6400000 in
theorem RefSets_walk (price limit other : Int) (w : World) (hp : (Lit.int .i64 price).wf = true) (hl : (Lit.int .i64 limit).wf = true) (ho : (Lit.int .i64 other).wf = true) :
    Calls Try.prog 5 #[.int .i64 price, .int .i64 limit, .int .i64 other] w fun e w' => e = .returned (.bool true) ∧ Below w.heap.size w w' := by
  obtain ⟨pr, hpr⟩ := sets_price price
  obtain ⟨li, hli⟩ := sets_limit limit
  have HPR0 := Lib.hid (fun (W : World) (R g : Nat) (h : RefIn w W R g ⟨setsP, dat0.a, setsS⟩) => price_in ⟨#[88]⟩ price h (by decide) (by decide) (by decide))
  have HLI0 := Lib.hid (fun (W : World) (R g : Nat) (S : DH) (h : RefIn w W R g ⟨setsP, dat0.a, S⟩) => limit_in ⟨#[80]⟩ limit h (by decide) (show (getP setsP ⟨#[80]⟩).name.size ≤ maxLen by decide) (show Maps.size setsP ≤ 900 by decide))
  obtain ⟨E, hE⟩ : ∃ E, E = priceE setsS ⟨#[88]⟩ price := ⟨_, rfl⟩
  obtain ⟨F, hF⟩ : ∃ F, F = limitE setsP ⟨#[80]⟩ limit := ⟨_, rfl⟩
  obtain ⟨S, hS⟩ : ∃ S, S = priceD setsS ⟨#[88]⟩ price := ⟨_, rfl⟩
  obtain ⟨P, hP⟩ : ∃ P, P = limitD setsP ⟨#[80]⟩ limit := ⟨_, rfl⟩
  rw [← hE, ← hS] at hpr
  rw [← hF, ← hP] at hli
  simp only at HPR0 HLI0
  rw [← hE, ← hS] at HPR0
  rw [← hF, ← hP] at HLI0
  have HPR := Lib.hid hpr
  have HLI := Lib.hid hli
  have HP := Lib.hid sets_p
  have HS := Lib.hid sets_s
  have hp2 := i64_of hp
  have hl2 := i64_of hl
  have ho2 := i64_of ho
  unfold i64 at hp2 hl2 ho2
  clear hE hF hS hP hpr hli hp hl ho
  go_enter Try.func5, Try.ntmps5
  go_wp2_with fail
  refine (new_any _).mono ?_
  rintro e w1 ⟨R, g, rfl, hr⟩
  have HR := Lib.hid hr
  clear hr
  go_wp2_with fail
  refine (addP_in _ [p7, p8] (HR.out.step ((Below.refl _ _).alloc (Nat.le_refl _) _)) (pty2 _ _ _ rfl p7 p8 ⟨by decide, i64_small (by decide) (by decide)⟩ ⟨by decide, i64_small (by decide) (by decide)⟩)).mono ?_
  rintro e w2 ⟨he, hr⟩
  rw [HP.out] at he hr
  subst he
  have HR2 := Lib.hid hr
  clear hr
  go_wp2_with fail
  refine (addS_in _ [sX, sE] (HR2.out.step ((Below.refl _ _).alloc (Nat.le_refl _) _)) (ast2 _ _ _ rfl sX sE ⟨by decide, i64_small (by decide) (by decide), i64_small (by decide) (by decide), i64_small (by decide) (by decide), i64_small (by decide) (by decide), i64_small (by decide) (by decide)⟩ ⟨by decide, i64_small (by decide) (by decide), i64_small (by decide) (by decide), i64_small (by decide) (by decide), i64_small (by decide) (by decide), i64_small (by decide) (by decide)⟩)).mono ?_
  rintro e w3 ⟨he, hr⟩
  simp only at he hr
  rw [HS.out] at he hr
  subst he
  have HR3 := Lib.hid hr
  clear hr
  go_wp2_with fail
  refine (HPR0.out _ _ _ HR3.out).mono ?_
  rintro e w4 ⟨rfl, hr⟩
  have HR4 := Lib.hid hr
  clear hr
  go_wp2_with fail
  refine (HLI0.out _ _ _ _ HR4.out).mono ?_
  rintro e w5 ⟨rfl, hr⟩
  have HR5 := Lib.hid hr
  clear hr
  go_wp2_with fail
  refine (price_in ⟨#[69, 85, 82]⟩ other HR5.out (by decide) (by rw [HPR.out.at1]; decide) (by rw [HPR.out.sz]; decide)).mono ?_
  rintro e w6 ⟨he, hr⟩
  simp only at he hr
  rw [(price_eur HPR.out).1] at he
  rw [(price_eur HPR.out).2] at hr
  subst he
  have HR6 := Lib.hid hr
  clear hr
  go_wp2_with fail
  refine (getS_in2 ⟨#[88]⟩ HR6.out (by decide)).mono ?_
  rintro e w7 ⟨he, hb7⟩
  rw [HPR.out.at0] at he
  simp only [Ast.val] at he
  subst he
  have HR7 := Lib.hid (HR6.out.step hb7)
  clear hb7
  generalize hasV S ⟨#[88]⟩ = b7
  go_wp2_with fail
  refine (getP_in2 ⟨#[80]⟩ (HR7.out.step ((Below.refl _ _).alloc (Nat.le_refl _) _)) (by decide)).mono ?_
  rintro e w8 ⟨he, hb8⟩
  rw [HLI.out.at0] at he
  simp only [Pty.val] at he
  subst he
  have a8 : w8.cell? ⟨w7.heap.size, 5, none⟩ = some (.int .i64 pr) := (hb8.cell (p := ⟨w7.heap.size, 5, none⟩) (by simp)).trans (by simp)
  have HR8 := Lib.hid ((HR7.out.step ((Below.refl _ _).alloc (Nat.le_refl _) _)).step hb8)
  have hs8 : w7.heap.size < w8.heap.size := by have := hb8.size; simp at this; omega
  clear hb8
  generalize hasV P ⟨#[80]⟩ = b8
  go_wp2_with fail
  refine (getP_in2 ⟨#[81]⟩ (HR8.out.step ((Below.refl _ _).alloc (Nat.le_refl _) _)) (by decide)).mono ?_
  rintro e w9 ⟨he, hb9⟩
  rw [HLI.out.at1] at he
  simp only [Pty.val, p8] at he
  subst he
  have a9 : w9.cell? ⟨w7.heap.size, 5, none⟩ = some (.int .i64 pr) := (hb9.cell (p := ⟨w7.heap.size, 5, none⟩) (by simp; omega)).trans (cell_al a8 hs8)
  have b9 : w9.cell? ⟨w8.heap.size, 1, none⟩ = some (.int .i64 li) := (hb9.cell (p := ⟨w8.heap.size, 1, none⟩) (by simp)).trans (by simp)
  have hs9 : w8.heap.size < w9.heap.size := by have := hb9.size; simp at this; omega
  have HR9 := Lib.hid ((HR8.out.step ((Below.refl _ _).alloc (Nat.le_refl _) _)).step hb9)
  clear hb9 a8
  generalize hasV P ⟨#[81]⟩ = b10
  rcases HPR.out.why with ⟨rfl, p1, p2, rfl⟩ | ⟨rfl, p1, rfl⟩ | ⟨rfl, p1, rfl⟩
  all_goals
    rcases HLI.out.why with ⟨rfl, l1, l2, rfl⟩ | ⟨rfl, l1, rfl⟩ | ⟨rfl, l1, rfl⟩
  all_goals
    go_wp2_with fail
    refine (alive_any _).mono ?_
    rintro e w10 ⟨rfl, hb10⟩
    have a10 := (hb10.cell (p := ⟨w7.heap.size, 5, none⟩) (by simp; omega)).trans (cell_al a9 (by omega))
    have b10 := (hb10.cell (p := ⟨w8.heap.size, 1, none⟩) (by simp; omega)).trans (cell_al b9 hs9)
    have c10 : w10.cell? ⟨w9.heap.size, 1, none⟩ = some (.int .i64 8) := (hb10.cell (p := ⟨w9.heap.size, 1, none⟩) (by simp)).trans (by simp)
    have HR10 := Lib.hid ((HR9.out.step ((Below.refl _ _).alloc (Nat.le_refl _) _)).step hb10)
    clear hb10
    go_wp2_with fail
    refine (price_in ⟨#[89]⟩ 1 HR10.out (by decide) (by rw [HPR.out.noAt]; decide) (by rw [HPR.out.sz]; decide)).mono ?_
    rintro e w11 ⟨he, hr⟩
    simp only at he hr
    rw [(price_y HPR.out).1] at he
    rw [(price_y HPR.out).2] at hr
    subst he
    have HR11 := Lib.hid hr
    clear hr
    go_wp2_with fail
    refine (limit_in ⟨#[82]⟩ 1 HR11.out (by decide) (by rw [HLI.out.noAt]; decide) (by rw [HLI.out.sz]; decide)).mono ?_
    rintro e w12 ⟨he, hr⟩
    simp only at he hr
    rw [(limit_r HLI.out).1] at he
    subst he
    have HR12 := Lib.hid hr.bel
    clear hr
    go_wp2
    go_ret
    exact ⟨rfl, HR12.out⟩

end Go.Proofs.Ytohlmegbndgedaa
