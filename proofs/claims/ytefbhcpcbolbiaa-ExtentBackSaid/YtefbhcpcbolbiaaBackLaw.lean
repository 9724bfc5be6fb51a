/- Plain facts for ExtentBack: pages are told again of their extents; holes and extents together are all places. -/
import Derived.Test.YtefbhcpcbolbiaaHoles
namespace Go.Proofs.Ytefbhcpcbolbiaa
open Go.RowKit

theorem pages_of {ps : List Int} (hb : ∀ p ∈ ps, 0 ≤ p ∧ p < 1048576) (hm : ps.length ≤ 1000) : pagesL (ofL ps) ps.length = ps := by
  obtain ⟨hr, hf⟩ := ofL_good hb hm
  apply List.ext_getElem?
  intro i
  by_cases hi : i < ps.length
  · rw [pagesL_get hr hi]
    unfold pageB
    rw [if_pos hr, hf, if_pos (by omega), Int.toNat_natCast, List.getD_eq_getElem?_getD, List.getElem?_eq_getElem hi]; rfl
  · rw [List.getElem?_eq_none (by rw [pagesL_len]; omega), List.getElem?_eq_none (by omega)]

def sumZ (xs : List E) : Int := (xs.map E.l).foldr (· + ·) 0
theorem sumZ_append (xs ys : List E) : sumZ (xs ++ ys) = sumZ xs + sumZ ys := by
  induction xs with
  | nil => simp [sumZ]
  | cons x t ih => simp only [sumZ, List.cons_append, List.map_cons, List.foldr_cons] at *; rw [ih]; omega
theorem sumZ_one (x : E) : sumZ [x] = x.l := by simp [sumZ]
theorem sumZ_bounds {xs : List E} (h : ∀ x ∈ xs, 0 ≤ x.l ∧ x.l ≤ 1048576) : 0 ≤ sumZ xs ∧ sumZ xs ≤ xs.length * 1048576 := by
  induction xs with
  | nil => simp [sumZ]
  | cons x t ih =>
    have h1 := h x (by simp)
    have h2 := ih (fun y hy => h y (by simp [hy]))
    have : sumZ (x :: t) = x.l + sumZ t := by simp [sumZ]
    rw [this, List.length_cons]
    omega
theorem sumB_is {xs : List E} (h : ∀ x ∈ xs, 0 ≤ x.l ∧ x.l ≤ 1048576) (hm : xs.length ≤ 1000) : sumB xs = sumZ xs := by
  have key : ∀ j, j ≤ xs.length → sumB (xs.take j) = sumZ (xs.take j) := by
    intro j
    induction j with
    | zero => intro _; rfl
    | succ j ih =>
      intro hj
      have hx : xs[j]? = some xs[j] := List.getElem?_eq_getElem (by omega)
      generalize xs[j] = x at hx
      have hb := h x (List.mem_of_getElem? hx)
      have hs := sumZ_bounds (xs := xs.take j) (fun y hy => h y (List.mem_of_mem_take hy))
      rw [List.length_take] at hs
      rw [take_snoc hx, sumB_snoc, ih (by omega), sumZ_append, sumZ_one]
      have hmin : min j xs.length = j := by omega
      rw [hmin] at hs
      unfold wrap64; omega
  have := key xs.length (Nat.le_refl _)
  rwa [List.take_length] at this

theorem sumZ_addE {xs : List E} (hr : rightB xs = true) {x : E} (hx : x.l ≤ 1048576) : sumZ (addE xs x) = sumZ xs + max 0 x.l := by
  unfold addE
  by_cases hl : x.l < 1
  · rw [if_pos hl]; omega
  · rw [if_neg hl]
    cases hg : xs.getLast? with
    | none =>
      have : xs = [] := List.getLast?_eq_none_iff.1 hg
      subst this
      simp [sumZ]; omega
    | some a =>
      obtain ⟨ys, rfl⟩ : ∃ ys, xs = ys ++ [a] := List.getLast?_eq_some_iff.1 hg
      have ha := oneB_bounds (rightB_mem hr (y := a) (by simp))
      dsimp only
      have w3 : wrap64 (a.l + x.l) = a.l + x.l := by unfold wrap64; omega
      split
      · rw [w3, List.length_append, List.length_singleton, Nat.add_sub_cancel, List.set_append_right _ _ (Nat.le_refl _), Nat.sub_self, List.set_cons_zero, sumZ_append, sumZ_append, sumZ_one, sumZ_one]
        dsimp only; omega
      · rw [sumZ_append, sumZ_one]; omega

/-- What holds of a hole. -/
def HoleIs (xs : List E) (n : Int) (h : E) : Prop :=
  1 ≤ h.l ∧ h.p = 0 ∧ 0 ≤ h.f ∧ h.f + h.l ≤ n ∧ ∀ k, h.f ≤ k → k < h.f + h.l → findP xs k = 0

theorem holesN_app (xs zs : List E) (n : Int) : ∀ j, j ≤ xs.length → holesN (xs ++ zs) n j = holesN xs n j := by
  intro j
  induction j with
  | zero => intro _; rfl
  | succ j ih =>
    intro hj
    have hx : xs[j]? = some xs[j] := List.getElem?_eq_getElem (by omega)
    have hx2 : (xs ++ zs)[j]? = some xs[j] := by rw [List.getElem?_append_left (by omega)]; exact hx
    rw [holesN_at hx, holesN_at hx2, ih (by omega)]

theorem holes_inv {xs : List E} (hr : rightB xs = true) {n : Int} (hn : 1 ≤ n ∧ n < 1048576) : ∀ j, j ≤ xs.length →
    0 ≤ (holesN xs n j).2 ∧ (∀ x, xs[j]? = some x → (holesN xs n j).2 ≤ x.f) ∧ (∀ k, (holesN xs n j).2 ≤ k → findP (xs.take j) k = 0) ∧
    (∀ h ∈ (holesN xs n j).1, HoleIs (xs.take j) n h ∧ h.f + h.l < (holesN xs n j).2) ∧
    (∀ i g h, (holesN xs n j).1[i]? = some g → (holesN xs n j).1[i + 1]? = some h → g.f + g.l < h.f) ∧
    sumZ (holesN xs n j).1 + sumZ (addsN (belowE · n) [] xs j) = min (holesN xs n j).2 n := by
  intro j
  induction j with
  | zero =>
    intro _
    refine ⟨by simp [holesN], fun x hx => ?_, fun k _ => by simp [findP], fun h hh => by simp [holesN] at hh, fun i g h hg => by simp [holesN] at hg, ?_⟩
    · have := oneB_bounds (rightB_one hr hx); simp only [holesN]; omega
    · simp only [holesN, addsN, sumZ, List.map_nil, List.foldr_nil]; omega
  | succ j ih =>
    intro hj
    obtain ⟨i1, i2, i3, i4, i5, i6⟩ := ih (by omega)
    obtain ⟨_, hcut, _, _⟩ := cut_good hr (n := n) ⟨by omega, hn.2⟩ j (by omega)
    have hx : xs[j]? = some xs[j] := List.getElem?_eq_getElem (by omega)
    generalize xs[j] = x at hx
    have ho := rightB_one hr hx
    have hb := oneB_bounds ho
    have hle := i2 x hx
    have hnext : ∀ y, xs[j + 1]? = some y → x.f + x.l ≤ y.f := fun y hy => (right_next hr hx hy).1
    have w1 : wrap64 (n - x.f) = n - x.f := by unfold wrap64; omega
    have hsum : sumZ (addsN (belowE · n) [] xs (j + 1)) = sumZ (addsN (belowE · n) [] xs j) + max 0 (min x.l (n - x.f)) := by
      rw [addsN_at hx, sumZ_addE hcut.1 (by unfold belowE; dsimp only; omega)]
      unfold belowE
      rw [w1]
    have hft : ∀ k, k < x.f ∨ x.f + x.l ≤ k → findP (xs.take (j + 1)) k = findP (xs.take j) k := by
      intro k hk
      rw [findP_take hr hx, if_neg (by omega)]
    rw [holesN_at hx, hsum]
    generalize holesN xs n j = oa at *
    obtain ⟨out, at_⟩ := oa
    dsimp only at *
    have hmax : max at_ (x.f + x.l) = x.f + x.l := by omega
    rw [hmax]
    have hold : ∀ h ∈ out, HoleIs (xs.take (j + 1)) n h ∧ h.f + h.l < x.f + x.l := by
      intro h hh
      obtain ⟨⟨h1, h2, h3, h4, h5⟩, h6⟩ := i4 h hh
      exact ⟨⟨h1, h2, h3, h4, fun k k1 k2 => by rw [hft k (by omega)]; exact h5 k k1 k2⟩, by omega⟩
    refine ⟨by omega, hnext, fun k hk => by rw [hft k (by omega)]; exact i3 k (by omega), ?_, ?_, ?_⟩
    · by_cases hz : 0 < min x.f n - at_
      · rw [if_pos hz]
        intro h hh
        rw [List.mem_append, List.mem_singleton] at hh
        rcases hh with hh | rfl
        · exact hold h hh
        · exact ⟨⟨by dsimp only; omega, rfl, i1, by dsimp only; omega, fun k k1 k2 => by dsimp only at k1 k2; rw [hft k (by omega)]; exact i3 k (by omega)⟩, by dsimp only; omega⟩
      · rw [if_neg hz]; exact hold
    · by_cases hz : 0 < min x.f n - at_
      · rw [if_pos hz]
        intro i g h hg hh
        rcases Nat.lt_trichotomy (i + 1) out.length with hi | hi | hi
        · rw [List.getElem?_append_left (by omega)] at hg hh
          exact i5 i g h hg hh
        · rw [List.getElem?_append_left (by omega)] at hg
          rw [List.getElem?_append_right (by omega), hi, Nat.sub_self] at hh
          cases hh
          exact (i4 g (List.mem_of_getElem? hg)).2
        · rw [List.getElem?_eq_none (by simp; omega)] at hh; cases hh
      · rw [if_neg hz]; exact i5
    · by_cases hz : 0 < min x.f n - at_
      · rw [if_pos hz, sumZ_append, sumZ_one]; dsimp only; omega
      · rw [if_neg hz]; omega

/-- What the law asks of the holes. -/
theorem holesL_is {xs : List E} (hr : rightB xs = true) {n : Int} (hn : 1 ≤ n ∧ n < 1048576) :
    (∀ h ∈ holesL xs n, HoleIs xs n h) ∧ (∀ i g h, (holesL xs n)[i]? = some g → (holesL xs n)[i + 1]? = some h → g.f + g.l < h.f) ∧ sumZ (holesL xs n) + sumZ (cutL xs n) = n := by
  obtain ⟨i1, _, i3, i4, i5, i6⟩ := holes_inv hr hn xs.length (Nat.le_refl _)
  rw [List.take_length] at i3 i4
  have hx : (xs ++ [(⟨n, 0, 0⟩ : E)])[xs.length]? = some ⟨n, 0, 0⟩ := by simp
  unfold holesL
  rw [holesN_at hx, holesN_app _ _ _ _ (Nat.le_refl _)]
  unfold cutL
  generalize holesN xs n xs.length = oa at *
  obtain ⟨out, at_⟩ := oa
  dsimp only at *
  have hmin : min n n = n := by omega
  rw [hmin]
  by_cases hz : 0 < n - at_
  · rw [if_pos hz]
    refine ⟨?_, ?_, ?_⟩
    · intro h hh
      rw [List.mem_append, List.mem_singleton] at hh
      rcases hh with hh | rfl
      · exact (i4 h hh).1
      · exact ⟨by dsimp only; omega, rfl, i1, by dsimp only; omega, fun k k1 k2 => i3 k k1⟩
    · intro i g h hg hh
      rcases Nat.lt_trichotomy (i + 1) out.length with hi | hi | hi
      · rw [List.getElem?_append_left (by omega)] at hg hh
        exact i5 i g h hg hh
      · rw [List.getElem?_append_left (by omega)] at hg
        rw [List.getElem?_append_right (by omega), hi, Nat.sub_self] at hh
        cases hh
        exact (i4 g (List.mem_of_getElem? hg)).2
      · rw [List.getElem?_eq_none (by simp; omega)] at hh; cases hh
    · rw [sumZ_append, sumZ_one]; dsimp only; omega
  · rw [if_neg hz]
    exact ⟨fun h hh => (i4 h hh).1, i5, by omega⟩
end Go.Proofs.Ytefbhcpcbolbiaa
