/- Of plain numbers syncs more make no score less: plain law, on scores told by their rungs. -/
import Derived.Test.YtkakhjaaakophaaRuns
namespace Go.Proofs.Ytkakhjaaakophaa
open Fl

theorem ageq_geq (x y : Nat) : ageq (ab x) (ab y) = true ↔ Geq x y := by
  unfold ageq Geq; rw [← order_ab]; simp
theorem aleq_iff (x y : Nat) : aleq (ab x) (ab y) = true ↔ (Ieee.double.order x y = some .lt ∨ Ieee.double.order x y = some .eq) := by
  unfold aleq; rw [← order_ab]; simp

/-- A score is a number of this rung; it is finite where nothing is kept. -/
def Sc (rk : Nat) (s : Option Nat) (r : Nat) : Prop := ∃ x, s = some x ∧ NN x r ∧ (rk = 0 → r < inf)
def stepR (rk rg r : Nat) (b : Bool) : Nat := if b then A (M rk r) rg else M rk r

theorem Sc.step {k g rk rg : Nat} (hk : NN k rk) (hg : NN g rg) (hk1 : rk < inf) (hg1 : rg < inf) {s : Option Nat} {r : Nat} (h : Sc rk s r) (b : Bool) : Sc rk (anext (some k) (some g) s b) (stepR rk rg r b) := by
  obtain ⟨x, rfl, hx, hf⟩ := h
  obtain ⟨z, hz, hnz⟩ := mul_NN hk hx (by omega) (by rintro ⟨h0, h1⟩; have := hf h0; omega)
  have hm : amul (some k) (some x) = some z := hz
  unfold anext stepR
  cases b
  · rw [if_neg (by simp), if_neg (by simp), hm]
    refine ⟨z, rfl, hnz, fun h0 => ?_⟩
    subst h0; rw [M_zero' (hf rfl)]; unfold inf; omega
  · rw [if_pos rfl, if_pos rfl, hm]
    obtain ⟨y, hy, hny⟩ := add_NN hnz hg
    refine ⟨y, hy, hny, fun h0 => ?_⟩
    subst h0; rw [M_zero' (hf rfl), A_zero hg1]; exact hg1

theorem stepR_mono {rk rg r t : Nat} (h : r ≤ t) (ht : t ≤ inf) {b c : Bool} (hbc : b = true → c = true) : stepR rk rg r b ≤ stepR rk rg t c := by
  have hm := M_mono (k := rk) h ht
  unfold stepR
  cases b
  · cases c
    · simp only [Bool.false_eq_true, if_false]; exact hm
    · simp only [Bool.false_eq_true, if_false, if_true]; exact Nat.le_trans hm (A_ge (M_le _ _))
  · rw [hbc rfl]; simp only [if_true]; exact A_mono hm (M_le _ _)

theorem arun_rel {k g rk rg : Nat} (hk : NN k rk) (hg : NN g rg) (hk1 : rk < inf) (hg1 : rg < inf) (bs : List Bool) : ∀ (xs : List Bool) (s u : Option Nat) (r t : Nat), Sc rk s r → Sc rk u t → r ≤ t → bs.length = xs.length →
    (∀ i : Nat, bs[i]? = some true → xs[i]? = some true) → ∀ (i : Nat) (a b : Option Nat), (arun (some k) (some g) s bs)[i]? = some a → (arun (some k) (some g) u xs)[i]? = some b → ∃ r t, Sc rk a r ∧ Sc rk b t ∧ r ≤ t := by
  induction bs with
  | nil => intro xs s u r t _ _ _ _ _ i a b ha; simp [arun] at ha
  | cons c bs ih =>
    intro xs s u r t hs hu hrt hl hb i a b ha hb'
    cases xs with
    | nil => simp at hl
    | cons d xs =>
      have hu' := hu
      obtain ⟨_, _, hnu, _⟩ := hu'
      have hcd : c = true → d = true := fun h => by have := hb 0 (by simp [h]); simpa using this
      have h1 := hs.step hk hg hk1 hg1 c
      have h2 := hu.step hk hg hk1 hg1 d
      have h3 := stepR_mono (rk := rk) (rg := rg) hrt hnu.le hcd
      cases i with
      | zero =>
        simp [arun] at ha hb'
        exact ⟨_, _, ha ▸ h1, hb' ▸ h2, h3⟩
      | succ i =>
        simp only [arun, List.getElem?_cons_succ] at ha hb'
        exact ih xs _ _ _ _ h1 h2 h3 (by simpa using hl) (fun j hj => by have := hb (j + 1) (by simpa using hj); simpa using this) i a b ha hb'

theorem plain_rungs {k g l : Nat} (h : plainB (ab k) (ab g) (ab l) = true) : ∃ rk rg, NN k rk ∧ NN g rg ∧ rk < inf ∧ rg < inf ∧ Ieee.double.order l l = some .eq := by
  unfold plainB at h
  simp only [Bool.and_eq_true] at h
  obtain ⟨h1, h2, h3, h4, h5⟩ := h
  obtain ⟨rk, hk⟩ := NN_of_geq ((ageq_geq _ _).1 h1)
  obtain ⟨rg, hg⟩ := NN_of_geq ((ageq_geq _ _).1 h3)
  have n1 : NN 4607182418800017408 4607182418800017408 := NN.word false (by unfold inf; omega) (fun h => by cases h)
  have n2 : NN 9218868437227405311 9218868437227405311 := NN.word false (by unfold inf; omega) (fun h => by cases h)
  have o1 := (aleq_iff _ _).1 h2
  have o2 := (aleq_iff _ _).1 h4
  rw [order_NN hk n1] at o1
  rw [order_NN hg n2] at o2
  have key : ∀ a b : Nat, (some (compare a b) = some Ordering.lt ∨ some (compare a b) = some Ordering.eq) → a ≤ b := by
    intro a b h
    rcases Nat.lt_or_ge b a with hlt | hge
    · rw [ncmp_gt hlt] at h; rcases h with h | h <;> cases h
    · exact hge
  have l1 := key _ _ o1
  have l2 := key _ _ o2
  refine ⟨rk, rg, hk, hg, by unfold inf; omega, by unfold inf; omega, ?_⟩
  unfold aeq at h5; rw [← order_ab] at h5; simpa using h5

/-- The law on bits. -/
theorem rises_bits {k g l : Nat} (h : plainB (ab k) (ab g) (ab l) = true) {bs xs : List Bool} (hl : bs.length = xs.length) (hb : ∀ i : Nat, bs[i]? = some true → xs[i]? = some true) {rs ts : List Nat}
    (hr : rs.map ab = arun (ab k) (ab g) (ab 0) bs) (ht : ts.map ab = arun (ab k) (ab g) (ab 0) xs) {i : Nat} {x y : Nat} (hx : rs[i]? = some x) (hy : ts[i]? = some y) :
    ageq (ab y) (ab x) = true ∧ alss (ab x) (ab 0) = false ∧ (ageq (ab x) (ab l) = true → ageq (ab y) (ab l) = true) := by
  obtain ⟨rk, rg, hk, hg, hk1, hg1, _⟩ := plain_rungs h
  have n0 : NN 0 0 := NN.word false (Nat.zero_le _) (fun h => by cases h)
  have s0 : Sc rk (ab 0) 0 := ⟨0, ab_some n0.num, n0, fun _ => by unfold inf; omega⟩
  rw [ab_some hk.num, ab_some hg.num] at hr ht
  have hx' : (arun (some k) (some g) (ab 0) bs)[i]? = some (ab x) := by rw [← hr]; simp [hx]
  have hy' : (arun (some k) (some g) (ab 0) xs)[i]? = some (ab y) := by rw [← ht]; simp [hy]
  obtain ⟨r, t, ⟨x', e1, hnx, _⟩, ⟨y', e2, hny, _⟩, hrt⟩ := arun_rel hk hg hk1 hg1 bs xs _ _ 0 0 s0 s0 (Nat.le_refl _) hl hb i _ _ hx' hy'
  obtain ⟨_, rfl⟩ := ab_eq_some e1
  obtain ⟨_, rfl⟩ := ab_eq_some e2
  have hge : Geq y x := by
    unfold Geq; rw [order_NN hny hnx]
    rcases Nat.lt_or_eq_of_le hrt with h | h
    · rw [ncmp_gt h]; exact .inl rfl
    · rw [h, ncmp_eq]; exact .inr rfl
  refine ⟨(ageq_geq _ _).2 hge, ?_, fun h => (ageq_geq _ _).2 (hge.trans ((ageq_geq _ _).1 h))⟩
  unfold alss; rw [← order_ab, order_NN hnx n0]
  rcases Nat.eq_zero_or_pos r with h | h
  · rw [h, ncmp_eq]; rfl
  · rw [ncmp_gt h]; rfl

/-- Without syncs nobody has a score. -/
theorem none_zero {k g l : Nat} (h : plainB (ab k) (ab g) (ab l) = true) (n : Nat) : aeq (ascore (ab k) (ab g) (ab 0) (List.replicate n false)) (ab 0) = true := by
  obtain ⟨rk, rg, hk, hg, hk1, hg1, _⟩ := plain_rungs h
  have n0 : NN 0 0 := NN.word false (Nat.zero_le _) (fun h => by cases h)
  rw [ab_some hk.num, ab_some hg.num]
  have key : ∀ (n : Nat) (s : Option Nat), Sc rk s 0 → Sc rk (ascore (some k) (some g) s (List.replicate n false)) 0 := by
    intro n
    induction n with
    | zero => intro s hs; exact hs
    | succ n ih =>
      intro s hs
      have h1 := hs.step hk hg hk1 hg1 false
      rw [show stepR rk rg 0 false = 0 from by unfold stepR; rw [if_neg (by simp), M_zero hk1]] at h1
      exact ih _ h1
  obtain ⟨x, e, hx, _⟩ := key n (ab 0) ⟨0, ab_some n0.num, n0, fun _ => by unfold inf; omega⟩
  rw [e, ← ab_some hx.num]
  unfold aeq; rw [← order_ab, order_NN hx n0, ncmp_eq]; rfl
end Go.Proofs.Ytkakhjaaakophaa
