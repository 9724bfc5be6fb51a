/- Plain facts on right extents: they are apart; the row of pages holds at each place what PageOf says. -/
import Derived.Test.YtefbhcpcbolbiaaPages
namespace Go.Proofs.Ytefbhcpcbolbiaa
open Go.RowKit

theorem rightB_ok {xs : List E} (h : rightB xs = true) {i : Nat} (hi : i < xs.length) : okAt xs i = true := by
  unfold rightB at h
  rw [List.all_eq_true] at h
  exact h i (List.mem_range.2 hi)

theorem right_next {xs : List E} (h : rightB xs = true) {k : Nat} {a x : E} (ha : xs[k]? = some a) (hx : xs[k + 1]? = some x) : a.f + a.l ≤ x.f ∧ joinsB a x = false := by
  have h1 := rightB_ok h (List.getElem?_eq_some_iff.1 hx).1
  rw [okAt_succ ha hx] at h1
  obtain ⟨b1, b2, b3, b4, b5, b6, b7, b8⟩ := oneB_bounds (rightB_one h ha)
  simp only [Bool.and_eq_true] at h1
  have h2 := h1.2
  unfold nextB at h2
  simp only [Bool.not_eq_true', Bool.or_eq_false_iff, decide_eq_false_iff_not] at h2
  have w1 : wrap64 (a.f + a.l) = a.f + a.l := by unfold wrap64; omega
  rw [w1] at h2
  exact ⟨by omega, h2.2⟩

theorem right_apart {xs : List E} (h : rightB xs = true) : ∀ {j k : Nat} {x y : E}, k < j → xs[k]? = some y → xs[j]? = some x → y.f + y.l ≤ x.f := by
  intro j
  induction j with
  | zero => intro k x y hk; omega
  | succ j ih =>
    intro k x y hk hy hx
    have hjl : j < xs.length := by have := (List.getElem?_eq_some_iff.1 hx).1; omega
    have hz : xs[j]? = some xs[j] := List.getElem?_eq_getElem hjl
    have h1 := (right_next h hz hx).1
    rcases Nat.lt_succ_iff_lt_or_eq.1 hk with h2 | rfl
    · have h3 := ih h2 hy hz
      have := (oneB_bounds (rightB_one h hz))
      omega
    · rw [hz] at hy
      cases hy
      exact h1

theorem inB_iff {x : E} (h : oneB x = true) (i : Int) : inB x i = true ↔ x.f ≤ i ∧ i < x.f + x.l := by
  obtain ⟨b1, b2, b3, b4, b5, b6, b7, b8⟩ := oneB_bounds h
  have w1 : wrap64 (x.f + x.l) = x.f + x.l := by unfold wrap64; omega
  unfold inB
  rw [w1]
  simp
theorem pageIn_eq {x : E} (h : oneB x = true) {i : Int} (hi : inB x i = true) : pageIn x i = x.p + (i - x.f) := by
  obtain ⟨b1, b2, b3, b4, b5, b6, b7, b8⟩ := oneB_bounds h
  have := (inB_iff h i).1 hi
  unfold pageIn
  have w1 : wrap64 (x.p + i) = x.p + i := by unfold wrap64; omega
  rw [w1]
  unfold wrap64; omega

theorem putK_get (out : List Int) (x : E) (i : Nat) (hi : i < out.length) : ∀ c, (putK out x c)[i]? = if x.f.toNat ≤ i ∧ i < x.f.toNat + c then some (x.p + ((i : Int) - x.f.toNat)) else out[i]? := by
  intro c
  induction c with
  | zero => rw [if_neg (by omega)]; rfl
  | succ c ih =>
    rw [putK_succ, List.getElem?_set]
    have hl := putK_len out x c
    by_cases h1 : x.f.toNat + c = i
    · rw [if_pos h1, if_pos (by rw [hl]; omega), if_pos ⟨by omega, by omega⟩]
      congr 1
      omega
    · rw [if_neg h1, ih]
      by_cases h2 : x.f.toNat ≤ i ∧ i < x.f.toNat + c
      · rw [if_pos h2, if_pos ⟨h2.1, by omega⟩]
      · rw [if_neg h2, if_neg (by omega)]

theorem findP_snoc (xs : List E) (x : E) (i : Int) : findP (xs ++ [x]) i = match xs.find? (inB · i) with | some y => pageIn y i | none => if inB x i then pageIn x i else 0 := by
  unfold findP
  rw [List.find?_append]
  cases hf : xs.find? (inB · i) with
  | some y => rfl
  | none =>
    cases hb : inB x i
    · simp [List.find?, hb]
    · simp [List.find?, hb]

theorem pagesN_get {xs : List E} (h : rightB xs = true) (n i : Nat) (hi : i < n) : ∀ j, j ≤ xs.length → (pagesN xs n j)[i]? = some (findP (xs.take j) i) := by
  intro j
  induction j with
  | zero => intro _; simp [pagesN, findP, hi]
  | succ j ih =>
    intro hj
    have hx : xs[j]? = some xs[j] := List.getElem?_eq_getElem (by omega)
    generalize xs[j] = x at hx
    rw [pagesN_at hx, putK_get _ _ _ (by rw [pagesN_len]; exact hi), take_snoc hx, findP_snoc, ih (by omega)]
    have h1 := rightB_one h hx
    obtain ⟨b1, b2, b3, b4, b5, b6, b7, b8⟩ := oneB_bounds h1
    have hin := inB_iff h1 (i : Int)
    by_cases hc : inB x i = true
    · have hn : (xs.take j).find? (inB · (i : Int)) = none := by
        rw [List.find?_eq_none]
        intro y hy hyb
        obtain ⟨k, hk⟩ := List.getElem?_of_mem hy
        have hkj : k < j := by
          have := (List.getElem?_eq_some_iff.1 hk).1
          rw [List.length_take] at this; omega
        rw [List.getElem?_take, if_pos hkj] at hk
        have h2 := right_apart h hkj hk hx
        have h3 := (inB_iff (rightB_one h hk) (i : Int)).1 hyb
        have h4 := hin.1 hc
        omega
      have h4 := hin.1 hc
      rw [hn]
      dsimp only
      rw [if_pos hc, pageIn_eq h1 hc, if_pos (by unfold cntE; omega)]
      congr 1
      omega
    · rw [if_neg (by intro hq; apply hc; apply hin.2; unfold cntE at hq; omega)]
      cases hf : (xs.take j).find? (inB · (i : Int)) with
      | some y => unfold findP; rw [hf]
      | none => unfold findP; rw [hf]; dsimp only; rw [if_neg hc]

/-- The row of pages, place by place. -/
theorem pagesL_get {xs : List E} (h : rightB xs = true) {n i : Nat} (hi : i < n) : (pagesL xs n)[i]? = some (pageB xs i) := by
  unfold pagesL
  rw [pagesN_get h n i hi _ (Nat.le_refl _), List.take_length]
  unfold pageB
  rw [if_pos h]
theorem pagesL_len (xs : List E) (n : Nat) : (pagesL xs n).length = n := pagesN_len xs n _
end Go.Proofs.Ytefbhcpcbolbiaa
