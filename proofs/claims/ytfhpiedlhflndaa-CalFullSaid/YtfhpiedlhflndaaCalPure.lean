/-
  Plain facts on days of business (no program in sight): the next one, the n-th one, how many there are between two days; where at most three hundred days are holidays the next hundred and twenty days of business lie within seven hundred days.
-/
import Derived.WalkKit
namespace Go.Proofs.Ytfhpiedlhflndaa.CalPure

/-- Is d a day of business, h telling the holidays? -/
def isB (h : Int → Bool) (d : Int) : Bool := decide (0 ≤ d) && decide (d ≤ 1000000) && decide (d % 7 < 5) && !h d

theorem isB_iff {h : Int → Bool} {d : Int} : isB h d = true ↔ 0 ≤ d ∧ d ≤ 1000000 ∧ d % 7 < 5 ∧ h d = false := by
  simp [isB, and_assoc]

/-- The first day of business among the k days behind d; -1 if there is none. -/
def nxt (h : Int → Bool) : Nat → Int → Int
  | 0, _ => -1
  | k + 1, d => if isB h (d + 1) then d + 1 else nxt h k (d + 1)

def from1 (d : Int) : Int := if d < -1 then -1 else d
def next (h : Int → Bool) (d : Int) : Int := nxt h (1000000 - from1 d).toNat (from1 d)

def adds (h : Int → Bool) : Nat → Int → Int
  | 0, d => d
  | n + 1, d => if next h d < 0 then next h d else adds h n (next h d)

/-- How many of the k days behind d are days of business. -/
def cnt (h : Int → Bool) : Nat → Int → Int
  | 0, _ => 0
  | k + 1, d => (if isB h (d + 1) then 1 else 0) + cnt h k (d + 1)

def upTo (t : Int) : Int := if 1000000 < t then 1000000 else t
def days (h : Int → Bool) (f t : Int) : Int := cnt h (upTo t - from1 f).toNat (from1 f)

theorem from1_ge (d : Int) : -1 ≤ from1 d := by unfold from1; split <;> omega
theorem from1_of {d : Int} (h : -1 ≤ d) : from1 d = d := by unfold from1; split <;> omega
theorem upTo_of {d : Int} (h : d ≤ 1000000) : upTo d = d := by unfold upTo; split <;> omega

theorem nxt_step (h : Int → Bool) (d : Int) (hd : d < 1000000) : nxt h (1000000 - d).toNat d = if isB h (d + 1) then d + 1 else nxt h (1000000 - (d + 1)).toNat (d + 1) := by
  obtain ⟨k, hk⟩ : ∃ k, (1000000 - d).toNat = k + 1 := ⟨(1000000 - d).toNat - 1, by omega⟩
  have : (1000000 - (d + 1)).toNat = k := by omega
  rw [hk, this]; rfl

theorem nxt_end (h : Int → Bool) (d : Int) (hd : 1000000 ≤ d) : nxt h (1000000 - d).toNat d = -1 := by
  have : (1000000 - d).toNat = 0 := by omega
  rw [this]; rfl

theorem nxt_range (h : Int → Bool) : ∀ (k : Nat) (d : Int), nxt h k d = -1 ∨ (d < nxt h k d ∧ nxt h k d ≤ d + k ∧ isB h (nxt h k d) = true)
  | 0, _ => .inl rfl
  | k + 1, d => by
    unfold nxt
    split
    · rename_i hb; exact .inr ⟨by omega, by omega, hb⟩
    · rcases nxt_range h k (d + 1) with e | ⟨e1, e2, e3⟩
      · exact .inl e
      · exact .inr ⟨by omega, by omega, e3⟩

theorem next_range (h : Int → Bool) (d : Int) : next h d = -1 ∨ (from1 d < next h d ∧ next h d ≤ 1000000 ∧ isB h (next h d) = true) := by
  have h1 := from1_ge d
  rcases nxt_range h (1000000 - from1 d).toNat (from1 d) with e | ⟨e1, e2, e3⟩
  · exact .inl e
  · refine .inr ⟨e1, ?_, e3⟩
    exact (isB_iff.1 e3).2.1

theorem next_bd (h : Int → Bool) (d : Int) : -1 ≤ next h d ∧ next h d ≤ 1000000 := by
  have h1 := from1_ge d
  rcases next_range h d with e | ⟨e1, e2, e3⟩
  · omega
  · omega

/-- No day of business lies between. -/
theorem nxt_none (h : Int → Bool) : ∀ (k : Nat) (d x : Int), nxt h k d ≠ -1 → d < x → x < nxt h k d → isB h x = false
  | 0, _, _, hn, _, _ => absurd rfl hn
  | k + 1, d, x, hn, h1, h2 => by
    unfold nxt at hn h2
    split at h2
    · omega
    · rename_i hb
      rw [if_neg hb] at hn
      by_cases e : x = d + 1
      · subst e; simpa using hb
      · exact nxt_none h k (d + 1) x hn (by omega) h2

theorem cnt_range (h : Int → Bool) : ∀ (k : Nat) (d : Int), 0 ≤ cnt h k d ∧ cnt h k d ≤ k
  | 0, _ => by simp [cnt]
  | k + 1, d => by
    have := cnt_range h k (d + 1)
    unfold cnt
    split <;> constructor <;> omega

theorem cnt_step (h : Int → Bool) (t d : Int) (hd : d < t) : cnt h (t - d).toNat d = (if isB h (d + 1) then 1 else 0) + cnt h (t - (d + 1)).toNat (d + 1) := by
  obtain ⟨k, hk⟩ : ∃ k, (t - d).toNat = k + 1 := ⟨(t - d).toNat - 1, by omega⟩
  have : (t - (d + 1)).toNat = k := by omega
  rw [hk, this]; rfl

theorem cnt_end (h : Int → Bool) (t d : Int) (hd : t ≤ d) : cnt h (t - d).toNat d = 0 := by
  have : (t - d).toNat = 0 := by omega
  rw [this]; rfl

theorem cnt_add (h : Int → Bool) : ∀ (a b : Nat) (d : Int), cnt h (a + b) d = cnt h a d + cnt h b (d + a)
  | 0, b, d => by simp [cnt]
  | a + 1, b, d => by
    have e : a + 1 + b = (a + b) + 1 := by omega
    have e2 : d + 1 + (a : Int) = d + ((a + 1 : Nat) : Int) := by omega
    rw [e]
    show (if isB h (d + 1) then (1 : Int) else 0) + cnt h (a + b) (d + 1) = (if isB h (d + 1) then (1 : Int) else 0) + cnt h a (d + 1) + cnt h b (d + ((a + 1 : Nat) : Int))
    rw [cnt_add h a b (d + 1), e2]
    omega

/-- Where one of k days is a day of business the next one is among them, and the days up to it are one. -/
theorem nxt_found (h : Int → Bool) : ∀ (k : Nat) (d : Int), 0 ≤ d → 1 ≤ cnt h k d → ∀ K, k ≤ K → d < nxt h K d ∧ nxt h K d ≤ d + k ∧ cnt h (nxt h K d - d).toNat d = 1
  | 0, d, _, hc, _, _ => by simp [cnt] at hc
  | k + 1, d, h0, hc, K, hK => by
    obtain ⟨K, rfl⟩ : ∃ m, K = m + 1 := ⟨K - 1, by omega⟩
    unfold cnt at hc
    by_cases hb : isB h (d + 1) = true
    · have e : nxt h (K + 1) d = d + 1 := by unfold nxt; rw [if_pos hb]
      rw [e]
      have e2 : (d + 1 - d).toNat = 0 + 1 := by omega
      refine ⟨by omega, by omega, ?_⟩
      rw [e2]; unfold cnt; rw [if_pos hb]; simp [cnt]
    · rw [if_neg hb] at hc
      have ih := nxt_found h k (d + 1) (by omega) (by omega) K (by omega)
      have e : nxt h (K + 1) d = nxt h K (d + 1) := by rw [nxt.eq_2, if_neg hb]
      rw [e]
      obtain ⟨i1, i2, i3⟩ := ih
      refine ⟨by omega, by omega, ?_⟩
      rw [cnt_step h _ d (by omega), if_neg hb, i3]; rfl

/-- Adding n days of business, n of which lie within k days: just n lie behind d up to there. -/
theorem adds_found (h : Int → Bool) : ∀ (n k : Nat) (d : Int), 0 ≤ d → d + k ≤ 1000000 → (n : Int) ≤ cnt h k d → d ≤ adds h n d ∧ adds h n d ≤ d + k ∧ cnt h (adds h n d - d).toNat d = n
  | 0, k, d, h0, _, _ => by
    have e : (d - d).toNat = 0 := by omega
    refine ⟨Int.le_refl _, by show d ≤ d + k; omega, ?_⟩
    show cnt h (d - d).toNat d = 0
    rw [e]; rfl
  | n + 1, k, d, h0, hk, hc => by
    have hf := nxt_found h k d h0 (by omega) (1000000 - d).toNat (by omega)
    have en : next h d = nxt h (1000000 - d).toNat d := by unfold next; rw [from1_of (by omega)]
    rw [← en] at hf
    obtain ⟨f1, f2, f3⟩ := hf
    have ea : adds h (n + 1) d = adds h n (next h d) := by rw [adds.eq_2, if_neg (by omega)]
    have hs : k = (next h d - d).toNat + (d + k - next h d).toNat := by omega
    have hsum := cnt_add h (next h d - d).toNat (d + k - next h d).toNat d
    rw [← hs, f3] at hsum
    have e3 : d + ((next h d - d).toNat : Int) = next h d := by omega
    rw [e3] at hsum
    have ih := adds_found h n (d + k - next h d).toNat (next h d) (by omega) (by omega) (by omega)
    obtain ⟨i1, i2, i3⟩ := ih
    rw [ea]
    refine ⟨by omega, by omega, ?_⟩
    have hs2 : (adds h n (next h d) - d).toNat = (next h d - d).toNat + (adds h n (next h d) - next h d).toNat := by omega
    rw [hs2, cnt_add, f3, e3, i3]; omega

theorem adds_add (h : Int → Bool) : ∀ (n m : Nat) (d : Int), 0 ≤ d → 0 ≤ adds h n d → adds h (n + m) d = adds h m (adds h n d)
  | 0, m, d, _, _ => by simp [adds]
  | n + 1, m, d, h0, ha => by
    have e : n + 1 + m = (n + m) + 1 := by omega
    rw [e]
    rw [adds.eq_2] at ha
    by_cases hx : next h d < 0
    · rw [if_pos hx] at ha; omega
    · rw [if_neg hx] at ha
      rw [adds.eq_2, if_neg hx, adds.eq_2, if_neg hx]
      exact adds_add h n m _ (by omega) ha

theorem adds_bd (h : Int → Bool) : ∀ (n : Nat) (d : Int), -1 ≤ d → d ≤ 1000000 → -1 ≤ adds h n d ∧ adds h n d ≤ 1000000
  | 0, d, a, b => ⟨a, b⟩
  | n + 1, d, a, b => by
    have := next_bd h d
    rw [adds.eq_2]
    split
    · exact this
    · exact adds_bd h n _ this.1 this.2

theorem days_of (h : Int → Bool) {f t : Int} (hf : -1 ≤ f) (ht : t ≤ 1000000) : days h f t = cnt h (t - f).toNat f := by
  unfold days; rw [from1_of hf, upTo_of ht]

/-- Days between add up. -/
theorem days_add (h : Int → Bool) {a b c : Int} (ha : 0 ≤ a) (hab : a ≤ b) (hbc : b ≤ c) (hc : c ≤ 1000000) : days h a b + days h b c = days h a c := by
  rw [days_of h (by omega) (by omega), days_of h (by omega) hc, days_of h (by omega) hc]
  have hs : (c - a).toNat = (b - a).toNat + (c - b).toNat := by omega
  have e : a + ((b - a).toNat : Int) = b := by omega
  rw [hs, cnt_add, e]

/-! ### how many there are, where the holidays are few -/
/-- How many of the k days behind d are holidays. -/
def hol (h : Int → Bool) : Nat → Int → Int
  | 0, _ => 0
  | k + 1, d => (if h (d + 1) then 1 else 0) + hol h k (d + 1)

theorem cnt_hol (h : Int → Bool) : ∀ (k : Nat) (d : Int), cnt (fun _ => false) k d ≤ cnt h k d + hol h k d
  | 0, _ => by simp [cnt, hol]
  | k + 1, d => by
    have := cnt_hol h k (d + 1)
    unfold cnt hol
    cases hh : h (d + 1)
    · have e : isB h (d + 1) = isB (fun _ => false) (d + 1) := by simp [isB, hh]
      rw [e]; simp; omega
    · simp only [if_true]; split <;> split <;> omega

def points (h : Int → Bool) : Nat → Int → List Int
  | 0, _ => []
  | k + 1, d => (if h (d + 1) then [d + 1] else []) ++ points h k (d + 1)

theorem points_mem (h : Int → Bool) : ∀ (k : Nat) (d x : Int), x ∈ points h k d → d < x ∧ h x = true
  | 0, _, _, hx => by simp [points] at hx
  | k + 1, d, x, hx => by
    unfold points at hx
    rcases List.mem_append.1 hx with h1 | h1
    · split at h1
      · rename_i hh; simp at h1; subst h1; exact ⟨by omega, hh⟩
      · simp at h1
    · have := points_mem h k (d + 1) x h1; exact ⟨by omega, this.2⟩

theorem points_nodup (h : Int → Bool) : ∀ (k : Nat) (d : Int), (points h k d).Nodup
  | 0, _ => List.nodup_nil
  | k + 1, d => by
    unfold points
    refine List.nodup_append.2 ⟨by split <;> simp, points_nodup h k (d + 1), fun a ha b hb => ?_⟩
    have := (points_mem h k (d + 1) b hb).1
    split at ha
    · simp at ha; omega
    · simp at ha

theorem points_len (h : Int → Bool) : ∀ (k : Nat) (d : Int), ((points h k d).length : Int) = hol h k d
  | 0, _ => rfl
  | k + 1, d => by
    have := points_len h k (d + 1)
    unfold points hol
    rw [List.length_append]
    split <;> simp <;> omega

theorem hol_le (h : Int → Bool) (K : List Int) (hK : ∀ x, h x = true → x ∈ K) (k : Nat) (d : Int) : hol h k d ≤ K.length := by
  rw [← points_len]
  have := List.Nodup.length_le_of_subset (points_nodup h k d) (fun x hx => hK x (points_mem h k d x hx).2)
  omega

theorem week (d : Int) (h0 : -1 ≤ d) (h1 : d + 7 ≤ 1000000) : cnt (fun _ => false) 7 d = 5 := by
  have e : ∀ i : Int, 1 ≤ i → i ≤ 7 → isB (fun _ => false) (d + i) = decide ((d + i) % 7 < 5) := fun i a b => by
    have x1 : decide (0 ≤ d + i) = true := by simp; omega
    have x2 : decide (d + i ≤ 1000000) = true := by simp; omega
    simp [isB, x1, x2]
  have s : cnt (fun _ => false) 7 d = (if (d + 1) % 7 < 5 then 1 else 0) + ((if (d + 2) % 7 < 5 then 1 else 0) + ((if (d + 3) % 7 < 5 then 1 else 0) + ((if (d + 4) % 7 < 5 then 1 else 0) + ((if (d + 5) % 7 < 5 then 1 else 0) + ((if (d + 6) % 7 < 5 then 1 else 0) + ((if (d + 7) % 7 < 5 then 1 else 0) + (0 : Int))))))) := by
    simp only [cnt, Int.add_assoc]
    simp only [Int.reduceAdd, e 1 (by omega) (by omega), e 2 (by omega) (by omega), e 3 (by omega) (by omega), e 4 (by omega) (by omega), e 5 (by omega) (by omega), e 6 (by omega) (by omega), e 7 (by omega) (by omega), decide_eq_true_eq]
  rw [s]
  omega

theorem weeks : ∀ (j : Nat) (d : Int), -1 ≤ d → d + 7 * j ≤ 1000000 → cnt (fun _ => false) (7 * j) d = 5 * j
  | 0, d, _, _ => rfl
  | j + 1, d, h0, h1 => by
    have e : 7 * (j + 1) = 7 + 7 * j := by omega
    rw [e, cnt_add, week d h0 (by omega), weeks j (d + (7 : Nat)) (by omega) (by omega)]
    omega

/-- 120 days of business lie within 700 days. -/
theorem enough (h : Int → Bool) (K : List Int) (hK : ∀ x, h x = true → x ∈ K) (hl : K.length ≤ 300) (d : Int) (h0 : 0 ≤ d) (h1 : d ≤ 900000) : 200 ≤ cnt h 700 d := by
  have a := weeks 100 d (by omega) (by omega)
  have b := cnt_hol h 700 d
  have c := hol_le h K hK 700 d
  have a' : cnt (fun _ => false) 700 d = 500 := a
  omega

end Go.Proofs.Ytfhpiedlhflndaa.CalPure
