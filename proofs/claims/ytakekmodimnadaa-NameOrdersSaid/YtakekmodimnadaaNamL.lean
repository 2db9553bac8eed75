/-
  The walk of NameOrders.
-/
import Derived.Test.YtakekmodimnadaaNamK
import Derived.Deep.RegionWith
namespace Go.Proofs.Ytakekmodimnadaa
open Go.RowKit Go.Maps Go.WideMaps Go.ChangeShapes Go.WideShapes Go.ChangeAt

def TextsCap (w : World) (v : Value) (ss : List ByteArray) : Prop := TextsAt w v ss ∧ ∀ a n c, v = .slice a n c → n ≤ c ∧ (a = none → c = 0)

theorem texts_openC {H : Type} {enc : TypeId × Value → H} {W : World} {base : Nat} {v : Value} {d : DataW H} {p : List MemPlace} {ts : List TypeId} {ds : List (DataW H)} {j : Nat}
    (h : DataW.Trod enc Try.prog W 0 (fun _ => true) true 22 v d p) (hlt : ∀ x ∈ p, x.block < W.heap.size) (hok : Value.okWide Try.prog W .any base 22 v)
    (hsz : (DataW.weightsEach Try.prog ts ds).all (· ≤ reachBytes) = true) (ht : ts[j]? = some 22) (hd : ds[j]? = some d) : ∃ ss, TextsCap W v ss := by
  obtain ⟨ss, hs⟩ := texts_open h hlt hok hsz ht hd
  refine ⟨ss, hs, fun a n c e => ?_⟩
  subst e
  obtain ⟨fuel, hf⟩ := h
  rcases open_strings Try.underlying22 Try.underlying9 (by kernel_rfl) hf with ⟨hcs, _⟩ | ⟨x, l, c', zs, hcs, _, hl, _⟩
  · simp [Value.cells] at hcs
    obtain ⟨rfl, rfl, rfl⟩ := hcs
    exact ⟨Nat.le_refl _, fun _ => rfl⟩
  · simp [Value.cells] at hcs
    obtain ⟨rfl, rfl, rfl⟩ := hcs
    exact ⟨hl, fun h => by cases h⟩

theorem texts_take {w : World} {a : Option Addr} {ss : List ByteArray} {c : Nat} (k : Nat) (h : TextsAt w (.slice a ss.length c) ss) (hk : k ≤ ss.length) (c' : Nat) : TextsAt w (.slice a k c') (ss.take k) := by
  obtain ⟨a', c2, h1, h2, h3, h4⟩ := h
  injection h1 with h1 _ _
  subst h1
  have hl : (ss.take k).length = k := by rw [List.length_take]; omega
  refine ⟨a, c', by rw [hl], by rw [hl]; omega, fun s hs => h3 s (List.mem_of_mem_take hs), ?_⟩
  rcases h4 with h4 | ⟨b, off, e, hlt, hc⟩
  · exact .inl (by rw [h4, List.take_nil])
  · refine .inr ⟨b, off, e, hlt, fun j hj => ?_⟩
    rw [hl] at hj
    rw [hc j (by omega)]
    simp [List.getD, hj]

theorem texts_drop {w : World} {b off : Nat} {ss : List ByteArray} {c : Nat} (k : Nat) (h : TextsAt w (.slice (some ⟨b, off, none⟩) ss.length c) ss) (hk : k < ss.length) (c' : Nat) : TextsAt w (.slice (some ⟨b, off + k, none⟩) (ss.length - k) c') (ss.drop k) := by
  obtain ⟨a', c2, h1, h2, h3, h4⟩ := h
  injection h1 with h1 _ _
  subst h1
  have hl : (ss.drop k).length = ss.length - k := by rw [List.length_drop]
  refine ⟨_, c', by rw [hl], by rw [hl]; omega, fun s hs => h3 s (List.mem_of_mem_drop hs), ?_⟩
  rcases h4 with h4 | ⟨b', off', e, hlt, hc⟩
  · rw [h4] at hk; simp at hk
  · simp at e
    obtain ⟨rfl, rfl⟩ := e
    refine .inr ⟨b, off + k, rfl, hlt, fun j hj => ?_⟩
    rw [hl] at hj
    rw [Nat.add_assoc, hc (k + j) (by omega)]
    simp [List.getD]

theorem own_of_new {w : World} {base : Nat} {v : Value} {ss : List ByteArray} (h : NewTexts base w v ss) : w.ownsRow base 9 1 v ss.length (ss.map Value.string) := by
  refine ⟨by simp, ?_⟩
  rcases h.2 with ⟨rfl, rfl⟩ | ⟨g, c, cur, rfl, h2, h3, h4, h5, h6, h7⟩
  · exact .inl ⟨rfl, rfl⟩
  · refine .inr ⟨g, c, cur, rfl, h2, h3, h4, h5, by rw [h6, Nat.mul_one], ?_⟩
    rw [Nat.mul_one]
    obtain ⟨a', c2, h1, _, _, hcs⟩ := h.1
    rcases hcs with hcs | ⟨b', off', e, hlt, hc⟩
    · exact absurd hcs h7
    · rw [e] at h1
      simp at h1
      obtain ⟨⟨rfl, rfl⟩, rfl⟩ := h1
      refine List.ext_getElem? fun j => ?_
      by_cases hj : j < ss.length
      · have := hc j hj
        rw [Nat.zero_add] at this
        have : cur[j]? = some (.string (ss.getD j ByteArray.empty)) := by simpa [World.cell?, h3] using this
        rw [List.getElem?_take_of_lt hj, Array.getElem?_toList, this]
        simp [List.getD, hj]
      · rw [List.getElem?_eq_none (by rw [List.length_take]; omega), List.getElem?_eq_none (by simp; omega)]

theorem new_below {w w' : World} {base : Nat} {v : Value} {ss : List ByteArray} (h : NewTexts base w v ss) (hb : Below w.heap.size w w') : NewTexts base w' v ss := by
  refine ⟨h.1.below hb, ?_⟩
  rcases h.2 with h | ⟨g, c, cur, h1, h2, h3, h4⟩
  · exact .inl h
  · exact .inr ⟨g, c, cur, h1, h2, by rw [hb.block g (Array.getElem?_eq_some_iff.1 h3).1]; exact h3, h4⟩
theorem new_base {w : World} {base base' : Nat} {v : Value} {ss : List ByteArray} (h : NewTexts base w v ss) (hb : base' ≤ base) : NewTexts base' w v ss := by
  refine ⟨h.1, ?_⟩
  rcases h.2 with h | ⟨g, c, cur, h1, h2, h3⟩
  · exact .inl h
  · exact .inr ⟨g, c, cur, h1, Nat.le_trans hb h2, h3⟩
theorem sortS_length (ss : List ByteArray) : (sortS ss).length ≤ ss.length := by
  unfold sortS
  rw [sortedS_length]
  have := (size_addAll ss (.map []) tidy_empty).2
  have e : Maps.size (.map [] : DU) = 0 := rfl
  omega
theorem cmp_three (a b : ByteArray) : cmpS a b = -1 ∨ cmpS a b = 0 ∨ cmpS a b = 1 := by
  unfold cmpS
  by_cases h1 : a.data.toList < b.data.toList
  · rw [if_pos h1]; exact .inl rfl
  · rw [if_neg h1]
    by_cases h2 : b.data.toList < a.data.toList
    · rw [if_pos h2]; exact .inr (.inr rfl)
    · rw [if_neg h2]; exact .inr (.inl rfl)

set_option maxHeartbeats 1600000 in
theorem NameOrders_bad (a b c : ByteArray) (v : Value) (ss : List ByteArray) (w : World) (hv : TextsAt w v ss) (ha : a.size ≤ 140737488351232) (hb : b.size ≤ 140737488351232) (hc : c.size ≤ 140737488351232)
    (hg : (3000 < (a.size : Int) ∨ 3000 < (b.size : Int) ∨ 3000 < (c.size : Int)) ∨ ((a.size : Int) ≤ 3000 ∧ (b.size : Int) ≤ 3000 ∧ (c.size : Int) ≤ 3000 ∧ shortB 300 9000 ss = false)) :
    Calls Try.prog 3 #[.string a, .string b, .string c, v] w fun e w' => e = .returned (.bool true) ∧ Below w.heap.size w w' := by
  have HS := Lib.hid (shorts_any v ss w hv)
  by_cases h1 : 3000 < (a.size : Int)
  · clear hg
    go_enter Try.func3, Try.ntmps3
    go_wp2_with (first
      | (go_at_call 9; refine (alive_any _).mono ?_; rintro e w2 ⟨rfl, hb2⟩))
    go_ret
    exact ⟨rfl, hb2⟩
  by_cases h2 : 3000 < (b.size : Int)
  · clear hg
    go_enter Try.func3, Try.ntmps3
    go_wp2_with (first
      | (go_at_call 9; refine (alive_any _).mono ?_; rintro e w2 ⟨rfl, hb2⟩))
    go_ret
    exact ⟨rfl, hb2⟩
  by_cases h3 : 3000 < (c.size : Int)
  · clear hg
    go_enter Try.func3, Try.ntmps3
    go_wp2_with (first
      | (go_at_call 9; refine (alive_any _).mono ?_; rintro e w2 ⟨rfl, hb2⟩))
    go_ret
    exact ⟨rfl, hb2⟩
  · have hh : shortB 300 9000 ss = false := by
      rcases hg with hg | hg
      · omega
      · exact hg.2.2.2
    have HB := Lib.hid hh
    clear hg hh
    go_enter Try.func3, Try.ntmps3
    go_wp2_with (first
      | (go_at_call 8; refine HS.out.mono ?_; rintro e w1 ⟨rfl, hb1⟩; rw [HB.out])
      | (go_at_call 9; refine (alive_any _).mono ?_; rintro e w2 ⟨rfl, hb2⟩))
    go_ret
    exact ⟨rfl, hb1.trans (hb2.mono hb1.size)⟩

end Go.Proofs.Ytakekmodimnadaa
