/- Plain facts: what Cut and Put leave; the extents of pages. -/
import Derived.Test.YtefbhcpcbolbiaaGood
namespace Go.Proofs.Ytefbhcpcbolbiaa
open Go.RowKit

/-- The first j extents, each turned, put behind others. -/
def addsN (g : E → E) (s xs : List E) : Nat → List E
  | 0 => s
  | j + 1 => match xs[j]? with
    | none => addsN g s xs j
    | some x => addE (addsN g s xs j) (g x)
theorem addsN_at {g : E → E} {s xs : List E} {j : Nat} {x : E} (h : xs[j]? = some x) : addsN g s xs (j + 1) = addE (addsN g s xs j) (g x) := by
  show (match xs[j]? with | none => _ | some x => _) = _
  rw [h]
theorem addsN_len (g : E → E) (s xs : List E) (j : Nat) : (addsN g s xs j).length ≤ s.length + j := by
  induction j with
  | zero => exact Nat.le_refl _
  | succ j ih =>
    unfold addsN
    split
    · omega
    · exact Nat.le_trans (addE_len _ _) (by omega)
def cutL (xs : List E) (n : Int) : List E := addsN (belowE · n) [] xs xs.length
def putS (xs : List E) (i p : Int) : List E := if 0 < p then addE (cutL xs i) ⟨i, 1, p⟩ else cutL xs i
def putL (xs : List E) (i p : Int) : List E := addsN (aboveE · (i + 1)) (putS xs i p) xs xs.length
theorem cutL_len (xs : List E) (n : Int) : (cutL xs n).length ≤ xs.length := by
  have := addsN_len (belowE · n) [] xs xs.length
  unfold cutL
  simpa using this
theorem putS_len (xs : List E) (i p : Int) : (putS xs i p).length ≤ xs.length + 1 := by
  have h1 := cutL_len xs i
  have h2 := addE_len (cutL xs i) ⟨i, 1, p⟩
  unfold putS
  split <;> omega

theorem findP_take {xs : List E} (h : rightB xs = true) {j : Nat} {x : E} (hx : xs[j]? = some x) (k : Int) : findP (xs.take (j + 1)) k = if x.f ≤ k ∧ k < x.f + x.l then x.p + (k - x.f) else findP (xs.take j) k := by
  have h1 := rightB_one h hx
  rw [take_snoc hx, findP_snoc]
  have hin := inB_iff h1 k
  by_cases hc : x.f ≤ k ∧ k < x.f + x.l
  · have hn : (xs.take j).find? (inB · k) = none := by
      rw [List.find?_eq_none]
      intro y hy hyb
      obtain ⟨i, hi⟩ := List.getElem?_of_mem hy
      have hij : i < j := by
        have := (List.getElem?_eq_some_iff.1 hi).1
        rw [List.length_take] at this; omega
      rw [List.getElem?_take, if_pos hij] at hi
      have h2 := right_apart h hij hi hx
      have h3 := (inB_iff (rightB_one h hi) k).1 hyb
      omega
    rw [hn, if_pos hc]
    dsimp only
    rw [if_pos (hin.2 hc), pageIn_eq h1 (hin.2 hc)]
  · rw [if_neg hc]
    have hb : ¬ inB x k = true := fun hq => hc (hin.1 hq)
    unfold findP
    cases hf : (xs.take j).find? (inB · k) with
    | some y => rfl
    | none => dsimp only; rw [if_neg hb]

theorem cut_good {xs : List E} (h : rightB xs = true) {n : Int} (hn : 0 ≤ n ∧ n < 1048576) : ∀ j, j ≤ xs.length → ∃ hi, Good (addsN (belowE · n) [] xs j) hi (fun k => if k < n then findP (xs.take j) k else 0) ∧ hi ≤ n ∧ ∀ x, xs[j]? = some x → hi ≤ x.f := by
  intro j
  induction j with
  | zero =>
    intro _
    refine ⟨0, (good_nil 0).mono (Int.le_refl _) (fun k => by simp [findP]), hn.1, fun x hx => (oneB_bounds (rightB_one h hx)).1⟩
  | succ j ih =>
    intro hj
    obtain ⟨hi, hg, h1, h2⟩ := ih (by omega)
    have hx : xs[j]? = some xs[j] := List.getElem?_eq_getElem (by omega)
    generalize xs[j] = x at hx
    have ho := rightB_one h hx
    have hb := oneB_bounds ho
    have h3 := h2 x hx
    have w1 : wrap64 (n - x.f) = n - x.f := by unfold wrap64; omega
    have hbe : belowE x n = ⟨x.f, min x.l (n - x.f), x.p⟩ := by unfold belowE; rw [w1]
    have hnext : ∀ y, xs[j + 1]? = some y → x.f + x.l ≤ y.f := fun y hy => (right_next h hx hy).1
    have hc : ∀ k : Int, (if x.f ≤ k ∧ k < x.f + min x.l (n - x.f) then x.p + (k - x.f) else if k < n then findP (xs.take j) k else 0) = if k < n then findP (xs.take (j + 1)) k else 0 := by
      intro k
      rw [findP_take h hx]
      by_cases a1 : x.f ≤ k ∧ k < x.f + min x.l (n - x.f)
      · rw [if_pos a1, if_pos (by omega), if_pos (by omega)]
      · rw [if_neg a1]
        by_cases a2 : k < n
        · rw [if_pos a2, if_pos a2, if_neg (by omega)]
        · rw [if_neg a2, if_neg a2]
    rw [addsN_at hx, hbe]
    by_cases hl : n ≤ x.f
    · refine ⟨hi, (hg.add (hi' := hi) (fun h => ?_) (Int.le_refl _)).mono (Int.le_refl _) hc, h1, fun y hy => ?_⟩
      · dsimp only at h; omega
      · have := hnext y hy; omega
    · refine ⟨x.f + min x.l (n - x.f), (hg.add (x := ⟨x.f, min x.l (n - x.f), x.p⟩) (hi' := x.f + min x.l (n - x.f)) (fun _ => ⟨oneB_mk (by dsimp only; omega), h3, Int.le_refl _⟩) (by omega)).mono (Int.le_refl _) hc, by omega, fun y hy => ?_⟩
      have := hnext y hy; omega

theorem cutL_good {xs : List E} (h : rightB xs = true) {n : Int} (hn : 0 ≤ n ∧ n < 1048576) : Good (cutL xs n) n (fun k => if k < n then findP xs k else 0) := by
  obtain ⟨hi, hg, h1, _⟩ := cut_good h hn xs.length (Nat.le_refl _)
  rw [List.take_length] at hg
  exact hg.mono h1 (fun _ => rfl)

theorem putS_good {xs : List E} (h : rightB xs = true) {i p : Int} (hi : 0 ≤ i ∧ i < 1048576) (hp : 0 ≤ p ∧ p < 1048576) : Good (putS xs i p) (i + 1) (fun k => if k < i then findP xs k else if k = i then p else 0) := by
  have hg := cutL_good h hi
  unfold putS
  by_cases h0 : 0 < p
  · rw [if_pos h0]
    refine (hg.add (x := ⟨i, 1, p⟩) (hi' := i + 1) (fun _ => ⟨oneB_mk (by dsimp only; omega), Int.le_refl _, Int.le_refl _⟩) (by omega)).mono (Int.le_refl _) (fun k => ?_)
    dsimp only
    by_cases a1 : i ≤ k ∧ k < i + 1
    · rw [if_pos a1, if_neg (by omega), if_pos (by omega)]; omega
    · rw [if_neg a1]
      by_cases a2 : k < i
      · rw [if_pos a2, if_pos a2]
      · rw [if_neg a2, if_neg a2, if_neg (by omega)]
  · rw [if_neg h0]
    refine hg.mono (by omega) (fun k => ?_)
    by_cases a2 : k < i
    · rw [if_pos a2, if_pos a2]
    · rw [if_neg a2, if_neg a2]; split <;> omega

theorem put_good {xs : List E} (h : rightB xs = true) {i p : Int} (hi : 0 ≤ i ∧ i < 1048576) (hp : 0 ≤ p ∧ p < 1048576) : ∀ j, j ≤ xs.length → ∃ hh, Good (addsN (aboveE · (i + 1)) (putS xs i p) xs j) hh (fun k => if k < i then findP xs k else if k = i then p else findP (xs.take j) k) ∧ i + 1 ≤ hh ∧ ∀ x, xs[j]? = some x → hh ≤ max x.f (i + 1) := by
  intro j
  induction j with
  | zero =>
    intro _
    exact ⟨i + 1, (putS_good h hi hp).mono (Int.le_refl _) (fun k => by simp [findP]), Int.le_refl _, fun x _ => by omega⟩
  | succ j ih =>
    intro hj
    obtain ⟨hh, hg, h1, h2⟩ := ih (by omega)
    have hx : xs[j]? = some xs[j] := List.getElem?_eq_getElem (by omega)
    generalize xs[j] = x at hx
    have ho := rightB_one h hx
    have hb := oneB_bounds ho
    have h3 := h2 x hx
    have w1 : wrap64 (i + 1 - x.f) = i + 1 - x.f := by unfold wrap64; omega
    have hab : ∃ f l p', aboveE x (i + 1) = ⟨f, l, p'⟩ ∧ f = max x.f (i + 1) ∧ f + l = x.f + x.l ∧ p' - f = x.p - x.f := by
      unfold aboveE
      rw [w1]
      by_cases hz : 0 < i + 1 - x.f
      · rw [if_pos hz]
        refine ⟨_, _, _, rfl, ?_, ?_, ?_⟩ <;> unfold wrap64 <;> omega
      · rw [if_neg hz]
        refine ⟨x.f, x.l, x.p, rfl, ?_, ?_, ?_⟩ <;> omega
    obtain ⟨f, l, p', he, e1, e2, e3⟩ := hab
    have hnext : ∀ y, xs[j + 1]? = some y → x.f + x.l ≤ y.f := fun y hy => (right_next h hx hy).1
    have hc : ∀ k : Int, (if f ≤ k ∧ k < f + l then p' + (k - f) else if k < i then findP xs k else if k = i then p else findP (xs.take j) k) = if k < i then findP xs k else if k = i then p else findP (xs.take (j + 1)) k := by
      intro k
      by_cases a1 : f ≤ k ∧ k < f + l
      · rw [if_pos a1, if_neg (by omega), if_neg (by omega), findP_take h hx, if_pos (by omega)]; omega
      · rw [if_neg a1]
        by_cases a2 : k < i
        · rw [if_pos a2, if_pos a2]
        · rw [if_neg a2, if_neg a2]
          by_cases a3 : k = i
          · rw [if_pos a3, if_pos a3]
          · rw [if_neg a3, if_neg a3, findP_take h hx, if_neg (by omega)]
    rw [addsN_at hx, he]
    by_cases hl : l < 1
    · refine ⟨hh, (hg.add (hi' := hh) (fun h => ?_) (Int.le_refl _)).mono (Int.le_refl _) hc, h1, fun y hy => ?_⟩
      · dsimp only at h; omega
      · have := hnext y hy; omega
    · refine ⟨f + l, (hg.add (hi' := f + l) (fun _ => ⟨oneB_mk (by dsimp only; omega), by dsimp only; omega, Int.le_refl _⟩) (by omega)).mono (Int.le_refl _) hc, by omega, fun y hy => ?_⟩
      have := hnext y hy; omega

theorem putL_good {xs : List E} (h : rightB xs = true) {i p : Int} (hi : 0 ≤ i ∧ i < 1048576) (hp : 0 ≤ p ∧ p < 1048576) : rightB (putL xs i p) = true ∧ ∀ k, findP (putL xs i p) k = if k = i then p else findP xs k := by
  obtain ⟨hh, hg, _, _⟩ := put_good h hi hp xs.length (Nat.le_refl _)
  rw [List.take_length] at hg
  refine ⟨hg.1, fun k => (hg.2.2 k).trans ?_⟩
  dsimp only
  by_cases a2 : k < i
  · rw [if_pos a2, if_neg (by omega)]
  · rw [if_neg a2]

/-- The extents of pages. -/
theorem ofN_good {ps : List Int} (hb : ∀ p ∈ ps, 0 ≤ p ∧ p < 1048576) (hm : ps.length ≤ 1000) : ∀ j, j ≤ ps.length → Good (ofN ps j) j (fun k => if 0 ≤ k ∧ k < j then ps.getD k.toNat 0 else 0) := by
  intro j
  induction j with
  | zero => intro _; exact (good_nil 0).mono (Int.le_refl _) (fun k => by rw [if_neg (by omega)])
  | succ j ih =>
    intro hj
    have hg := ih (by omega)
    have hp : ps[j]? = some ps[j] := List.getElem?_eq_getElem (by omega)
    have hpb := hb ps[j] (List.getElem_mem _)
    have hgd : ps.getD j 0 = ps[j] := by rw [List.getD_eq_getElem?_getD, hp]; rfl
    generalize ps[j] = p at hp hpb hgd
    by_cases h0 : 0 < p
    · rw [ofN_put hp h0]
      refine (hg.add (x := ⟨j, 1, p⟩) (hi' := (j + 1 : Nat)) (fun _ => ⟨oneB_mk (by dsimp only; omega), Int.le_refl _, by dsimp only; omega⟩) (by omega)).mono (Int.le_refl _) (fun k => ?_)
      dsimp only
      by_cases a1 : (j : Int) ≤ k ∧ k < j + 1
      · have : k.toNat = j := by omega
        rw [if_pos a1, if_pos (by omega), this, hgd]; omega
      · rw [if_neg a1]
        by_cases a2 : 0 ≤ k ∧ k < j
        · rw [if_pos a2, if_pos (by omega)]
        · rw [if_neg a2, if_neg (by omega)]
    · rw [ofN_none hp h0]
      refine hg.mono (by omega) (fun k => ?_)
      by_cases a2 : 0 ≤ k ∧ k < j
      · rw [if_pos a2, if_pos (by omega)]
      · rw [if_neg a2]
        by_cases a3 : 0 ≤ k ∧ k < (j + 1 : Nat)
        · have : k.toNat = j := by omega
          rw [if_pos a3, this, hgd]; omega
        · rw [if_neg a3]

theorem ofL_good {ps : List Int} (hb : ∀ p ∈ ps, 0 ≤ p ∧ p < 1048576) (hm : ps.length ≤ 1000) : rightB (ofL ps) = true ∧ ∀ k, findP (ofL ps) k = if 0 ≤ k ∧ k < ps.length then ps.getD k.toNat 0 else 0 := by
  have := ofN_good hb hm ps.length (Nat.le_refl _)
  exact ⟨this.1, this.2.2⟩

/-- Put by put. -/
theorem put_of {ps : List Int} (hb : ∀ p ∈ ps, 0 ≤ p ∧ p < 1048576) (hm : ps.length ≤ 1000) {i : Nat} (hi : i < ps.length) {p : Int} (hp : 0 ≤ p ∧ p < 1048576) : putL (extL ps) i p = extL (ps.set i p) := by
  have hb2 : ∀ q ∈ ps.set i p, 0 ≤ q ∧ q < 1048576 := by
    intro q hq
    rcases List.mem_or_eq_of_mem_set hq with h | rfl
    · exact hb q h
    · exact hp
  have e1 := of_is_ext (ps := ps) (fun q hq => by have := hb q hq; omega) hm
  have e2 := of_is_ext (ps := ps.set i p) (fun q hq => by have := hb2 q hq; omega) (by rw [List.length_set]; exact hm)
  obtain ⟨r1, f1⟩ := ofL_good hb hm
  obtain ⟨r2, f2⟩ := ofL_good hb2 (by rw [List.length_set]; exact hm)
  rw [e1] at r1 f1
  rw [e2] at r2 f2
  obtain ⟨r3, f3⟩ := putL_good r1 (i := i) (p := p) (by omega) hp
  refine right_only r3 r2 (fun k => ?_)
  rw [f3, f2, f1, List.length_set]
  by_cases a1 : k = i
  · rw [if_pos a1, if_pos (by omega), a1]
    rw [List.getD_eq_getElem?_getD, Int.toNat_natCast, List.getElem?_set_self hi]; rfl
  · rw [if_neg a1]
    by_cases a2 : 0 ≤ k ∧ k < ps.length
    · rw [if_pos a2, if_pos a2, List.getD_eq_getElem?_getD, List.getD_eq_getElem?_getD, List.getElem?_set_ne (by omega)]
    · rw [if_neg a2, if_neg a2]
end Go.Proofs.Ytefbhcpcbolbiaa
