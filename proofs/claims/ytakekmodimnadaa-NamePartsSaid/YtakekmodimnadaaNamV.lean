/-
  Plain facts on names: what begins a name is one, what is behind another byte or too long is none.
-/
import Derived.Test.YtakekmodimnadaaNamE
namespace Go.Proofs.Ytakekmodimnadaa

def isL (c : Int) : Bool := decide (65 ≤ c) && decide (c ≤ 90)
def isD (c : Int) : Bool := decide (48 ≤ c) && decide (c ≤ 57)
/-- Can a text be a name? By its bytes, one by one. -/
def vN : List UInt8 → Bool
  | [] => false
  | c :: r => decide (r.length ≤ 11) && isL c.toNat && r.all fun d => isL d.toNat || isD d.toNat

theorem range_all (f : UInt8 → Bool) : ∀ (l : List UInt8), (List.range l.length).all (fun j => f (l.getD j 0)) = l.all f
  | [] => rfl
  | c :: r => by
    rw [List.length_cons, List.range_succ_eq_map, List.all_cons, List.all_map, List.all_cons, ← range_all f r]
    rfl

theorem valid_eq (s : ByteArray) : validB s = vN s.data.toList := by
  have hsz : s.size = s.data.toList.length := by simp
  unfold validB chr
  rw [hsz]
  cases s.data.toList with
  | nil => rfl
  | cons c r =>
    rw [List.length_cons, List.range_succ_eq_map, List.all_cons, List.all_map]
    have e1 : okAt 0 (((c :: r).getD 0 0).toNat : Int) = isL c.toNat := by simp [okAt, isL]
    have e2 : ((fun j => okAt j (((c :: r).getD j 0).toNat : Int)) ∘ Nat.succ) = fun j => (isL ((r.getD j 0).toNat : Int) || isD ((r.getD j 0).toNat : Int)) := by
      funext j
      simp [okAt, isL, isD]
    rw [e1, e2, range_all (fun d => isL d.toNat || isD d.toNat) r]
    have e3 : decide (r.length + 1 ≤ 12) = decide (r.length ≤ 11) := by simp
    have e4 : decide (1 ≤ r.length + 1) = true := by simp
    rw [e3, e4]
    simp [vN, Bool.and_assoc]

theorem vN_take {l : List UInt8} {k : Nat} (h : vN l = true) (hk : 1 ≤ k) : vN (l.take k) = true := by
  cases l with
  | nil => cases h
  | cons c r =>
    obtain ⟨j, rfl⟩ : ∃ j, k = j + 1 := ⟨k - 1, by omega⟩
    simp only [vN, Bool.and_eq_true, decide_eq_true_eq, List.all_eq_true, List.take_succ_cons] at h ⊢
    refine ⟨⟨Nat.le_trans (by rw [List.length_take]; omega) h.1.1, h.1.2⟩, fun d hd => h.2 d (List.mem_of_mem_take hd)⟩

theorem vN_len {l : List UInt8} (h : vN l = true) : l.length ≤ 12 := by
  cases l with
  | nil => simp
  | cons c r =>
    simp only [vN, Bool.and_eq_true, decide_eq_true_eq] at h
    rw [List.length_cons]; omega

theorem vN_snoc {l : List UInt8} (h : vN l = true) (c : UInt8) : vN (l ++ [c]) = ((isL c.toNat || isD c.toNat) && decide (l.length < 12)) := by
  cases l with
  | nil => cases h
  | cons d r =>
    simp only [vN, Bool.and_eq_true, decide_eq_true_eq, List.all_eq_true] at h
    rw [Bool.eq_iff_iff]
    simp only [List.cons_append, vN, Bool.and_eq_true, decide_eq_true_eq, List.all_eq_true, List.length_append, List.length_cons, List.length_nil, List.mem_append, List.mem_singleton]
    constructor
    · rintro ⟨⟨h1, _⟩, h2⟩
      exact ⟨h2 c (.inr rfl), by omega⟩
    · rintro ⟨h1, h2⟩
      exact ⟨⟨by omega, h.1.2⟩, fun x hx => by rcases hx with hx | rfl; exact h.2 x hx; exact h1⟩

theorem vN_bad (l : List UInt8) (hl : vN l = false) (hne : l ≠ []) (c : UInt8) (hc : (isL c.toNat || isD c.toNat) = false) : vN (l ++ [c]) = false := by
  cases l with
  | nil => exact absurd rfl hne
  | cons d r =>
    simp only [List.cons_append, vN, List.all_append, List.all_cons, hc, Bool.false_and, Bool.and_false]

theorem vN_digit (l : List UInt8) : vN (49 :: l) = false := by
  have h : isL ((49 : UInt8).toNat : Int) = false := by decide
  show (decide (l.length ≤ 11) && isL ((49 : UInt8).toNat : Int) && l.all fun d => isL d.toNat || isD d.toNat) = false
  rw [h]
  simp

end Go.Proofs.Ytakekmodimnadaa
