/- Plain facts on right extents: what add does; that pages tell the extents; what Cut and Put come to. -/
import Derived.Test.YtefbhcpcbolbiaaFind
import Derived.Test.YtefbhcpcbolbiaaAwake
import Derived.Test.YtefbhcpcbolbiaaParts
namespace Go.Proofs.Ytefbhcpcbolbiaa
open Go.RowKit

theorem rightB_iff {xs : List E} : rightB xs = true ↔ ∀ i, i < xs.length → okAt xs i = true :=
  ⟨fun h _ hi => rightB_ok h hi, rightB_yes⟩

theorem rightB_snoc (xs : List E) (x : E) : rightB (xs ++ [x]) = true ↔ rightB xs = true ∧ oneB x = true ∧ ∀ a, xs.getLast? = some a → nextB a x = true := by
  have old : ∀ i, i < xs.length → okAt (xs ++ [x]) i = okAt xs i := by
    intro i hi
    cases i with
    | zero => unfold okAt; rw [List.getElem?_append_left hi]
    | succ k => unfold okAt; rw [List.getElem?_append_left hi]; dsimp only; rw [List.getElem?_append_left (show k < xs.length by omega)]
  have new : okAt (xs ++ [x]) xs.length = true ↔ oneB x = true ∧ ∀ a, xs.getLast? = some a → nextB a x = true := by
    have hx : (xs ++ [x])[xs.length]? = some x := by simp
    rcases Nat.eq_zero_or_pos xs.length with h0 | h0
    · have : xs = [] := List.length_eq_zero_iff.1 h0
      subst this
      rw [show [].length = 0 from rfl, okAt_zero hx]
      simp
    · obtain ⟨k, hk⟩ : ∃ k, xs.length = k + 1 := ⟨xs.length - 1, by omega⟩
      have ha : xs[k]? = some xs[k] := List.getElem?_eq_getElem (by omega)
      have ha2 : (xs ++ [x])[k]? = some xs[k] := by rw [List.getElem?_append_left (by omega)]; exact ha
      have hl : xs.getLast? = some xs[k] := by rw [List.getLast?_eq_getElem?, show xs.length - 1 = k by omega]; exact ha
      rw [hk] at hx ⊢
      rw [okAt_succ ha2 hx, hl]
      simp
  rw [rightB_iff, rightB_iff, ← new]
  constructor
  · intro h
    refine ⟨fun i hi => ?_, h _ (by simp)⟩
    rw [← old i hi]; exact h i (by simp; omega)
  · rintro ⟨h1, h2⟩ i hi
    rw [List.length_append, List.length_singleton] at hi
    rcases Nat.lt_succ_iff_lt_or_eq.1 hi with h | rfl
    · rw [old i h]; exact h1 i h
    · exact h2

/-- Right extents, none beyond hi, that tell the pages c. -/
def Good (xs : List E) (hi : Int) (c : Int → Int) : Prop := rightB xs = true ∧ (∀ y ∈ xs, y.f + y.l ≤ hi) ∧ ∀ k, findP xs k = c k

theorem Good.mono {xs : List E} {hi hi' : Int} {c c' : Int → Int} (h : Good xs hi c) (hh : hi ≤ hi') (hc : ∀ k, c k = c' k) : Good xs hi' c' :=
  ⟨h.1, fun y hy => Int.le_trans (h.2.1 y hy) hh, fun k => (h.2.2 k).trans (hc k)⟩

theorem good_nil (hi : Int) : Good [] hi (fun _ => 0) := ⟨rfl, (fun y hy => by cases hy), fun _ => rfl⟩

theorem oneB_mk {x : E} (h : 0 ≤ x.f ∧ 1 ≤ x.l ∧ 1 ≤ x.p ∧ x.f + x.l ≤ 1048576 ∧ x.p + x.l ≤ 1048576) : oneB x = true := by
  unfold oneB; simp; omega

theorem rightB_mem {xs : List E} (h : rightB xs = true) {y : E} (hy : y ∈ xs) : oneB y = true := by
  obtain ⟨j, hj⟩ := List.getElem?_of_mem hy
  exact rightB_one h hj

theorem find_none {xs : List E} (h : rightB xs = true) {hi k : Int} (hh : ∀ y ∈ xs, y.f + y.l ≤ hi) (hk : hi ≤ k) : xs.find? (inB · k) = none := by
  rw [List.find?_eq_none]
  intro y hy hb
  have h1 := (inB_iff (rightB_mem h hy) k).1 hb
  have h2 := hh y hy
  omega

theorem Good.add {xs : List E} {hi hi' : Int} {c : Int → Int} {x : E} (h : Good xs hi c) (h1 : 1 ≤ x.l → oneB x = true ∧ hi ≤ x.f ∧ x.f + x.l ≤ hi') (hh : hi ≤ hi') :
    Good (addE xs x) hi' (fun k => if x.f ≤ k ∧ k < x.f + x.l then x.p + (k - x.f) else c k) := by
  obtain ⟨hr, he, hc⟩ := h
  unfold addE
  by_cases hl : x.l < 1
  · rw [if_pos hl]
    exact ⟨hr, fun y hy => Int.le_trans (he y hy) hh, fun k => by show _ = if x.f ≤ k ∧ k < x.f + x.l then x.p + (k - x.f) else c k; rw [if_neg (by omega)]; exact hc k⟩
  · rw [if_neg hl]
    obtain ⟨ho, hx, hx2⟩ := h1 (by omega)
    have hob := oneB_bounds ho
    cases hg : xs.getLast? with
    | none =>
      have : xs = [] := List.getLast?_eq_none_iff.1 hg
      subst this
      have := (rightB_snoc [] x).2 ⟨rfl, ho, fun a ha => by cases ha⟩
      refine ⟨this, fun y hy => by simp at hy; subst hy; exact hx2, fun k => ?_⟩
      show _ = if x.f ≤ k ∧ k < x.f + x.l then x.p + (k - x.f) else c k
      have h2 := findP_snoc [] x k
      rw [List.nil_append] at h2
      rw [h2]
      simp only [List.find?_nil]
      by_cases hin : inB x k = true
      · rw [if_pos hin, if_pos ((inB_iff ho k).1 hin), pageIn_eq ho hin]
      · rw [if_neg hin, if_neg (fun hq => hin ((inB_iff ho k).2 hq)), ← hc k]; rfl
    | some a =>
      obtain ⟨ys, rfl⟩ : ∃ ys, xs = ys ++ [a] := List.getLast?_eq_some_iff.1 hg
      have hra := (rightB_snoc ys a).1 hr
      have hoa := oneB_bounds hra.2.1
      have hea := he a (by simp)
      have hey : ∀ y ∈ ys, y.f + y.l ≤ hi := fun y hy => he y (by simp [hy])
      have hry := hra.1
      have w1 : wrap64 (a.f + a.l) = a.f + a.l := by unfold wrap64; omega
      have w2 : wrap64 (a.p + a.l) = a.p + a.l := by unfold wrap64; omega
      dsimp only
      by_cases hj : joinsB a x = true
      · rw [if_pos hj]
        have hj' := hj
        unfold joinsB at hj'
        rw [w1, w2] at hj'
        simp only [Bool.and_eq_true, beq_iff_eq] at hj'
        obtain ⟨j1, j2⟩ := hj'
        have w3 : wrap64 (a.l + x.l) = a.l + x.l := by unfold wrap64; omega
        rw [w3, List.length_append, List.length_singleton, Nat.add_sub_cancel, List.set_append_right _ _ (Nat.le_refl _), Nat.sub_self, List.set_cons_zero]
        have ho' : oneB { a with l := a.l + x.l } = true := oneB_mk (by dsimp only; omega)
        refine ⟨(rightB_snoc ys _).2 ⟨hry, ho', fun b hb => hra.2.2 b hb⟩, ?_, fun k => ?_⟩
        · intro y hy
          rw [List.mem_append, List.mem_singleton] at hy
          rcases hy with hy | rfl
          · exact Int.le_trans (hey y hy) hh
          · dsimp only; omega
        · show _ = if x.f ≤ k ∧ k < x.f + x.l then x.p + (k - x.f) else c k
          rw [findP_snoc]
          have i1 := inB_iff ho' k
          dsimp only at i1
          by_cases hk : x.f ≤ k ∧ k < x.f + x.l
          · have i2 : inB { a with l := a.l + x.l } k = true := i1.2 (by omega)
            rw [find_none hry hey (by omega), if_pos hk]
            dsimp only
            rw [if_pos i2, pageIn_eq ho' i2]
            dsimp only
            omega
          · rw [if_neg hk, ← hc k, findP_snoc]
            have i3 : inB { a with l := a.l + x.l } k = inB a k := by
              rw [Bool.eq_iff_iff, i1, inB_iff hra.2.1]; omega
            rw [i3]
            rfl
      · rw [if_neg hj]
        refine ⟨(rightB_snoc _ x).2 ⟨hr, ho, fun b hb => ?_⟩, ?_, fun k => ?_⟩
        · rw [hg] at hb; cases hb
          unfold nextB
          rw [w1]
          simp only [Bool.not_eq_true] at hj
          rw [hj]
          simp
          omega
        · intro y hy
          rw [List.mem_append, List.mem_singleton] at hy
          rcases hy with hy | rfl
          · exact Int.le_trans (he y hy) hh
          · exact hx2
        · show _ = if x.f ≤ k ∧ k < x.f + x.l then x.p + (k - x.f) else c k
          rw [findP_snoc]
          by_cases hk : x.f ≤ k ∧ k < x.f + x.l
          · have hin := (inB_iff ho k).2 hk
            rw [find_none hr he (by omega), if_pos hk]
            dsimp only
            rw [if_pos hin, pageIn_eq ho hin]
          · rw [if_neg hk, ← hc k]
            have hin : ¬ inB x k = true := fun hq => hk ((inB_iff ho k).1 hq)
            unfold findP
            cases hf : (ys ++ [a]).find? (inB · k) with
            | some y => rfl
            | none => dsimp only; rw [if_neg hin]

/-! ### Pages tell the extents -/

theorem rightB_cons {x : E} {t : List E} (h : rightB (x :: t) = true) : oneB x = true ∧ rightB t = true ∧ (∀ z ∈ t, x.f + x.l ≤ z.f) ∧ ∀ z, t[0]? = some z → joinsB x z = false := by
  refine ⟨rightB_one h (j := 0) rfl, ?_, ?_, ?_⟩
  · rw [rightB_iff] at h ⊢
    intro i hi
    have h1 := h (i + 1) (by simpa using hi)
    have hx : t[i]? = some t[i] := List.getElem?_eq_getElem hi
    cases i with
    | zero =>
      rw [okAt_succ (a := x) (x := t[0]) rfl (by simp)] at h1
      rw [okAt_zero hx]
      simp at h1; exact h1.1
    | succ k =>
      have ha : t[k]? = some t[k] := List.getElem?_eq_getElem (by omega)
      rw [okAt_succ (a := t[k]) (x := t[k + 1]) (by simp) (by simp)] at h1
      rw [okAt_succ ha hx]; exact h1
  · intro z hz
    obtain ⟨j, hj⟩ := List.getElem?_of_mem hz
    exact right_apart h (j := j + 1) (k := 0) (by omega) rfl (by simpa using hj)
  · intro z hz
    exact (right_next h (k := 0) (a := x) (x := z) rfl (by simpa using hz)).2

theorem findP_cons (x : E) (t : List E) (k : Int) : findP (x :: t) k = if inB x k then pageIn x k else findP t k := by
  unfold findP
  cases h : inB x k <;> simp [List.find?, h]

theorem findP_head {x : E} {t : List E} (h : rightB (x :: t) = true) : findP (x :: t) x.f = x.p := by
  have h1 := (rightB_cons h).1
  have hb := oneB_bounds h1
  have hin := (inB_iff h1 x.f).2 (by omega)
  rw [findP_cons, if_pos hin, pageIn_eq h1 hin]; omega

theorem findP_pos {xs : List E} (h : rightB xs = true) {k : Int} (hk : findP xs k ≠ 0) : ∃ y ∈ xs, y.f ≤ k ∧ k < y.f + y.l ∧ findP xs k = y.p + (k - y.f) := by
  unfold findP at hk ⊢
  cases hf : xs.find? (inB · k) with
  | none => rw [hf] at hk; exact absurd rfl hk
  | some y =>
    have hm := List.mem_of_find?_eq_some hf
    have hin : inB y k = true := List.find?_some (p := (inB · k)) hf
    have h1 := rightB_mem h hm
    obtain ⟨h2, h3⟩ := (inB_iff h1 k).1 hin
    exact ⟨y, hm, h2, h3, pageIn_eq h1 hin⟩

theorem head_least {x : E} {t : List E} (h : rightB (x :: t) = true) {y : E} (hy : y ∈ x :: t) : x.f ≤ y.f := by
  have := oneB_bounds (rightB_cons h).1
  rcases List.mem_cons.1 hy with rfl | h1
  · exact Int.le_refl _
  · have := (rightB_cons h).2.2.1 y h1; omega

theorem len_le {x y : E} {t s : List E} (hx : rightB (x :: t) = true) (hy : rightB (y :: s) = true) (hf : x.f = y.f) (hp : x.p = y.p) (h : ∀ k, findP (x :: t) k = findP (y :: s) k) : y.l ≤ x.l := by
  have h1 := rightB_cons hx
  have h2 := rightB_cons hy
  have b1 := oneB_bounds h1.1
  have b2 := oneB_bounds h2.1
  apply Int.not_lt.1
  intro hlt
  have hin : inB y (x.f + x.l) = true := (inB_iff h2.1 _).2 (by omega)
  have e1 : findP (y :: s) (x.f + x.l) = x.p + x.l := by rw [findP_cons, if_pos hin, pageIn_eq h2.1 hin]; omega
  have hout : ¬ inB x (x.f + x.l) = true := fun hq => by have := (inB_iff h1.1 _).1 hq; omega
  have e2 := h (x.f + x.l)
  rw [e1, findP_cons, if_neg hout] at e2
  obtain ⟨z, hz, z1, z2, z3⟩ := findP_pos h1.2.1 (k := x.f + x.l) (by omega)
  have z4 := h1.2.2.1 z hz
  cases t with
  | nil => cases hz
  | cons u t' =>
    have hu : z = u := by
      rcases List.mem_cons.1 hz with h3 | h3
      · exact h3
      · have h4 := (rightB_cons h1.2.1).2.2.1 z h3
        have h5 := h1.2.2.1 u (by simp)
        have h6 := oneB_bounds (rightB_cons h1.2.1).1
        omega
    subst hu
    have h7 := h1.2.2.2 z rfl
    unfold joinsB at h7
    have w1 : wrap64 (x.f + x.l) = x.f + x.l := by unfold wrap64; omega
    have w2 : wrap64 (x.p + x.l) = x.p + x.l := by unfold wrap64; omega
    rw [w1, w2] at h7
    simp at h7
    exact h7 (by omega) (by omega)

theorem right_only : ∀ {xs ys : List E}, rightB xs = true → rightB ys = true → (∀ k, findP xs k = findP ys k) → xs = ys := by
  intro xs
  induction xs with
  | nil =>
    intro ys _ hy h
    cases ys with
    | nil => rfl
    | cons y s =>
      have h1 := findP_head hy
      rw [← h] at h1
      have := oneB_bounds (rightB_cons hy).1
      have h2 : findP [] y.f = 0 := rfl
      omega
  | cons x t ih =>
    intro ys hx hy h
    cases ys with
    | nil =>
      have h1 := findP_head hx
      rw [h] at h1
      have := oneB_bounds (rightB_cons hx).1
      have h2 : findP [] x.f = 0 := rfl
      omega
    | cons y s =>
      have bx := oneB_bounds (rightB_cons hx).1
      have by_ := oneB_bounds (rightB_cons hy).1
      have ex := findP_head hx
      have ey := findP_head hy
      have hf : x.f = y.f := by
        obtain ⟨z, hz, z1, _, _⟩ := findP_pos hy (k := x.f) (by rw [← h, ex]; omega)
        obtain ⟨u, hu, u1, _, _⟩ := findP_pos hx (k := y.f) (by rw [h, ey]; omega)
        have := head_least hy hz
        have := head_least hx hu
        omega
      have hp : x.p = y.p := by rw [← ex, ← ey, h, hf]
      have hl : x.l = y.l := by
        have l1 := len_le hx hy hf hp h
        have l2 := len_le hy hx hf.symm hp.symm (fun k => (h k).symm)
        omega
      have hxy : x = y := by
        cases x; cases y; simp only at hf hp hl; subst hf; subst hp; subst hl; rfl
      subst hxy
      congr 1
      refine ih (rightB_cons hx).2.1 (rightB_cons hy).2.1 (fun k => ?_)
      by_cases hin : inB x k = true
      · have hk := (inB_iff (rightB_cons hx).1 k).1 hin
        have zero : ∀ t', rightB t' = true → (∀ z ∈ t', x.f + x.l ≤ z.f) → findP t' k = 0 := by
          intro t' ht hz
          apply Classical.byContradiction
          intro hne
          obtain ⟨z, hz1, hz2, _, _⟩ := findP_pos ht hne
          have := hz z hz1
          omega
        rw [zero t (rightB_cons hx).2.1 (rightB_cons hx).2.2.1, zero s (rightB_cons hy).2.1 (rightB_cons hy).2.2.1]
      · have := h k
        rw [findP_cons, findP_cons, if_neg hin, if_neg hin] at this
        exact this
end Go.Proofs.Ytefbhcpcbolbiaa
