/- The chapter's example holds: awake. And: the package's extents of pages are the reference's. -/
import Derived.Test.YtefbhcpcbolbiaaExt
namespace Go.Proofs.Ytefbhcpcbolbiaa
open Go.RowKit

set_option maxRecDepth 100000 in
set_option maxHeartbeats 4000000 in
theorem awake_any (w : World) : Calls Try.prog 6 #[] w fun e w' => e = .returned (.bool true) ∧ Below w.heap.size w w' := by
  have hi : Ints (w.alloc (.cells #[.int .i64 5, .int .i64 6, .int .i64 0, .int .i64 7] 3)) (some ⟨w.heap.size, 0, none⟩) 4 [5, 6, 0, 7] := by
    refine ⟨rfl, .inr ⟨_, _, rfl, by simp, fun i hi => ?_⟩⟩
    simp only [List.length_cons, List.length_nil] at hi
    match i, hi with
    | 0, _ => go_simp
    | 1, _ => go_simp
    | 2, _ => go_simp
    | 3, _ => go_simp
  have C := of_any 4 hi (by omega)
  have e : ofL [5, 6, 0, 7] = [⟨0, 2, 5⟩, ⟨3, 1, 7⟩] := by simp [ofL, ofN, addE, joinsB, wrap64]
  rw [e] at C
  have CX := Lib.hid C
  clear C e hi
  go_enter Try.func6, Try.ntmps6
  go_wp2_with (go_at_call 12; refine (CX.out).mono ?_; rintro e w1 ⟨v1, rfl, hown, hb1⟩; obtain ⟨X, c, rfl⟩ := own_slice hown; have hx := exts_of_row hown; obtain ⟨b, off, rfl, hbl, x, hx0, c0, c1, c2⟩ := hx.at (show 0 < 2 by omega); obtain ⟨b2, off2, eb, hbl2, y, hy0, d0, d1, d2⟩ := hx.at (show 1 < 2 by omega); cases eb; have c0 : w1.cell? ⟨b, off, none⟩ = _ := c0; have c1 : w1.cell? ⟨b, off + 1, none⟩ = _ := c1; have c2 : w1.cell? ⟨b, off + 2, none⟩ = _ := c2; have d0 : w1.cell? ⟨b, off + 3, none⟩ = _ := d0; have d1 : w1.cell? ⟨b, off + 4, none⟩ = _ := d1; have d2 : w1.cell? ⟨b, off + 5, none⟩ = _ := d2; cases hx0; cases hy0; have hbw := Lib.hid (Below.trans (((Below.refl w.heap.size w).alloc (Nat.le_refl _) (.cells #[.int .i64 5, .int .i64 6, .int .i64 0, .int .i64 7] 3))) (hb1.mono (by simp))); clear hx hown hb1 hbl hbl2)
  go_ret
  exact ⟨rfl, hbw.out⟩

/-- What holds of the last extent behind the first j pages. -/
def LastIs (ps : List Int) (j : Nat) (a : E) : Prop :=
  0 ≤ a.f ∧ 1 ≤ a.l ∧ a.f + a.l ≤ j ∧ ∃ q, 0 < j ∧ ps[j - 1]? = some q ∧ (0 < q → a.f + a.l = j ∧ a.p + a.l = q + 1) ∧ (q ≤ 0 → a.f + a.l < j)

theorem last_step {ps : List Int} (hb : ∀ p ∈ ps, p < 9223372036854775808) {j : Nat} (hj : j < 1000) {p : Int} (hp : ps[j]? = some p) {xs : List E} (h : ∀ a, xs.getLast? = some a → LastIs ps j a) :
    (0 < p → addE xs ⟨j, 1, p⟩ = extStep ps j p xs) ∧ ∀ a, (extStep ps j p xs).getLast? = some a → LastIs ps (j + 1) a := by
  have hpb := hb p (List.mem_of_getElem? hp)
  by_cases h0 : p ≤ 0
  · refine ⟨fun h1 => by omega, ?_⟩
    unfold extStep
    rw [if_pos h0]
    intro a ha
    obtain ⟨b1, b2, b3, q, b4, b5, b6, b7⟩ := h a ha
    exact ⟨b1, b2, by omega, p, by omega, by rw [Nat.add_sub_cancel]; exact hp, fun h1 => by omega, fun _ => by omega⟩
  · have hnew : LastIs ps (j + 1) ⟨j, 1, p⟩ := ⟨by simp, by simp, by simp, p, by omega, by rw [Nat.add_sub_cancel]; exact hp, fun _ => ⟨by simp, by simp⟩, fun h1 => by omega⟩
    unfold extStep addE
    rw [if_neg h0]
    cases hl : xs.getLast? with
    | none =>
      have hx : xs = [] := List.getLast?_eq_none_iff.1 hl
      subst hx
      refine ⟨fun _ => by simp, ?_⟩
      intro a ha
      simp at ha
      subst ha
      exact hnew
    | some a =>
      obtain ⟨b1, b2, b3, q, b4, b5, b6, b7⟩ := h a hl
      have hqb := hb q (List.mem_of_getElem? b5)
      rw [b5]
      have hj1 : joinsB a ⟨j, 1, p⟩ = decide (0 < j ∧ 0 < q ∧ q = wrap64 (p - 1)) := by
        unfold joinsB
        dsimp only
        have w1 : wrap64 (a.f + a.l) = a.f + a.l := by unfold wrap64; omega
        have w2 : wrap64 (p - 1) = p - 1 := by unfold wrap64; omega
        rw [w1, w2]
        by_cases hq : 0 < q
        · obtain ⟨c1, c2⟩ := b6 hq
          rw [c1, c2]
          by_cases hpq : q = p - 1
          · have w3 : wrap64 (q + 1) = p := by unfold wrap64; omega
            rw [w3, decide_eq_true (⟨b4, hq, hpq⟩ : 0 < j ∧ 0 < q ∧ q = p - 1)]
            simp
          · have w3 : wrap64 (q + 1) ≠ p := by unfold wrap64; omega
            simp [w3, hpq]
        · have := b7 (by omega)
          have w3 : ¬ a.f + a.l = j := by omega
          simp [w3, hq]
      have hlen : xs.length ≠ 0 := by
        intro h0
        rw [List.length_eq_zero_iff.1 h0] at hl
        cases hl
      dsimp only
      by_cases hc : 0 < j ∧ 0 < q ∧ q = wrap64 (p - 1)
      · rw [hj1, if_pos hc]
        refine ⟨fun _ => by rw [if_neg (by decide), if_pos (by simpa using hc)], ?_⟩
        obtain ⟨c0, c1, c2⟩ := hc
        obtain ⟨c3, c4⟩ := b6 c1
        have w1 : wrap64 (a.l + 1) = a.l + 1 := by unfold wrap64; omega
        have w2 : wrap64 (p - 1) = p - 1 := by unfold wrap64; omega
        intro y hy
        rw [List.getLast?_eq_getElem?, List.length_set, List.getElem?_set_self (by omega)] at hy
        cases hy
        rw [w1]
        exact ⟨b1, by dsimp only; omega, by dsimp only; omega, p, by omega, by rw [Nat.add_sub_cancel]; exact hp, fun _ => ⟨by dsimp only; omega, by dsimp only; omega⟩, fun h1 => by omega⟩
      · rw [hj1, if_neg hc]
        refine ⟨fun _ => by rw [if_neg (by decide), if_neg (by simpa using hc)], ?_⟩
        intro y hy
        rw [List.getLast?_append] at hy
        cases hy
        exact hnew

theorem of_is_ext {ps : List Int} (hb : ∀ p ∈ ps, p < 9223372036854775808) (hm : ps.length ≤ 1000) : ofL ps = extL ps := by
  have key : ∀ j, j ≤ ps.length → ofN ps j = extN ps j ∧ ∀ a, (extN ps j).getLast? = some a → LastIs ps j a := by
    intro j
    induction j with
    | zero => intro _; exact ⟨rfl, fun a ha => by cases ha⟩
    | succ j ih =>
      intro hj
      obtain ⟨h1, h2⟩ := ih (by omega)
      have hp : ps[j]? = some ps[j] := List.getElem?_eq_getElem (by omega)
      obtain ⟨s1, s2⟩ := last_step hb (by omega) hp h2
      rw [extN_at hp]
      refine ⟨?_, s2⟩
      by_cases h0 : 0 < ps[j]
      · rw [ofN_put hp h0, h1]; exact s1 h0
      · rw [ofN_none hp h0, h1]; unfold extStep; rw [if_pos (by omega)]
  exact (key _ (Nat.le_refl _)).1
end Go.Proofs.Ytefbhcpcbolbiaa
