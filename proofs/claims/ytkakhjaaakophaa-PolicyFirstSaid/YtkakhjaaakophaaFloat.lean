/- Plain facts on the model's double floats that are not negative: each has a rung; order, product and sum go by rungs. No program in sight. -/
import Ieee.Arith
namespace Go.Proofs.Ytkakhjaaakophaa.Fl
open Ieee

/-- Rungs to a binade. -/
def B : Nat := 4503599627370496
/-- The rung of infinity. -/
def inf : Nat := 9218868437227405312
def sw : Nat := 9223372036854775808

theorem B_pow : B = 2 ^ 52 := by unfold B; rfl
theorem binade_eq : double.binade = B := rfl
theorem infRung_eq : double.infRung = inf := by decide +kernel
theorem sw_eq : double.signWeight = sw := by decide +kernel
theorem lp_eq : double.leastPlace = -1074 := by decide +kernel
theorem fb_eq : double.fractionBits = 52 := rfl

/-- Half to even: 'n / 2 ^ d'. -/
def rhe (n d : Nat) : Nat := n / 2 ^ d + if 2 ^ d < 2 * (n % 2 ^ d) ∨ (2 ^ d = 2 * (n % 2 ^ d) ∧ n / 2 ^ d % 2 = 1) then 1 else 0

theorem rhe_zero (n : Nat) : rhe n 0 = n := by simp [rhe, Nat.mod_one]

theorem rhe_small {n d : Nat} (h : 2 * n < 2 ^ d) : rhe n d = 0 := by
  unfold rhe
  have h1 : n < 2 ^ d := by omega
  rw [Nat.div_eq_of_lt h1, Nat.mod_eq_of_lt h1, if_neg (by omega)]

theorem cut_eq (neg : Bool) (n d : Nat) : Toward.even.cut neg n d = rhe n d := by
  unfold Toward.cut
  simp only [Nat.shiftLeft_eq, Nat.one_mul]
  by_cases hd : d ≤ n.log2 + 2
  · rw [Nat.min_eq_left hd]
    unfold rhe
    congr 1
    by_cases h1 : 2 ^ d < 2 * (n % 2 ^ d)
    · simp [h1]
    · by_cases h2 : 2 ^ d = 2 * (n % 2 ^ d)
      · by_cases h3 : n / 2 ^ d % 2 = 1
        · simp [← h2, h3]
        · have h4 : n / 2 ^ d % 2 = 0 := by omega
          simp [← h2, h4]
      · simp [h1, h2]
  · have hd' : n.log2 + 2 ≤ d := by omega
    rw [Nat.min_eq_right hd']
    have hn : n < 2 ^ (n.log2 + 1) := Nat.lt_log2_self
    have hp : 2 ^ (n.log2 + 2) = 2 * 2 ^ (n.log2 + 1) := by rw [Nat.pow_succ]; omega
    have hle : 2 ^ (n.log2 + 2) ≤ 2 ^ d := Nat.pow_le_pow_right (by decide) hd'
    rw [rhe_small (by omega)]
    have h1 : n < 2 ^ (n.log2 + 2) := by omega
    rw [Nat.div_eq_of_lt h1, Nat.mod_eq_of_lt h1]
    have h2 : ¬ 2 ^ (n.log2 + 2) < 2 * n := by omega
    simp [h2]

theorem rhe_scale (n d k : Nat) : rhe (n * 2 ^ k) (d + k) = rhe n d := by
  unfold rhe
  have hk : 0 < 2 ^ k := Nat.two_pow_pos k
  rw [Nat.pow_add, Nat.mul_div_mul_right _ _ hk, Nat.mul_mod_mul_right]
  have e1 : (2 ^ d * 2 ^ k < 2 * (n % 2 ^ d * 2 ^ k)) ↔ (2 ^ d < 2 * (n % 2 ^ d)) := by
    rw [← Nat.mul_assoc]; exact Nat.mul_lt_mul_right hk
  have e2 : (2 ^ d * 2 ^ k = 2 * (n % 2 ^ d * 2 ^ k)) ↔ (2 ^ d = 2 * (n % 2 ^ d)) := by
    rw [← Nat.mul_assoc]; exact Nat.mul_left_inj (by omega)
  simp only [e1, e2]

theorem rhe_le (n d : Nat) : rhe n d ≤ n / 2 ^ d + 1 := by unfold rhe; split <;> omega
theorem le_rhe (n d : Nat) : n / 2 ^ d ≤ rhe n d := by unfold rhe; omega

theorem rhe_mono {n m : Nat} (d : Nat) (h : n ≤ m) : rhe n d ≤ rhe m d := by
  have hq : n / 2 ^ d ≤ m / 2 ^ d := Nat.div_le_div_right h
  rcases Nat.lt_or_eq_of_le hq with hlt | heq
  · exact Nat.le_trans (rhe_le n d) (Nat.le_trans hlt (le_rhe m d))
  · have hr : n % 2 ^ d ≤ m % 2 ^ d := by
      have a := Nat.div_add_mod n (2 ^ d)
      have b := Nat.div_add_mod m (2 ^ d)
      rw [heq] at a
      omega
    unfold rhe
    rw [heq]
    by_cases h1 : 2 ^ d < 2 * (m % 2 ^ d) ∨ (2 ^ d = 2 * (m % 2 ^ d) ∧ m / 2 ^ d % 2 = 1)
    · rw [if_pos h1]; split <;> omega
    · rw [if_neg h1, if_neg (by omega)]; exact Nat.le_refl _

/-- 'k = 1074', kept from being reckoned. -/
def K : Nat := 1074
theorem K_eq : K = 1074 := rfl
attribute [irreducible] K
/-- '2 ^ 1074'. -/
def P : Nat := 2 ^ K
theorem P_pos : 0 < P := Nat.two_pow_pos K

/-- The last place that is kept of 'N' units of '2 ^ -2148', counted from there. -/
def ex (N : Nat) : Nat := max (N.log2 - 52) K

/-- The rung nearest to 'N' units of '2 ^ -2148'. -/
def R (N : Nat) : Nat := min ((ex N - K) * B + rhe N (ex N)) inf

theorem ex_ge (N : Nat) : K ≤ ex N := by unfold ex; omega

theorem R_zero : R 0 = 0 := by
  unfold R
  have e : ex 0 = K := by unfold ex; simp
  rw [e, rhe_small (by have := Nat.two_pow_pos K; omega), Nat.sub_self, Nat.zero_mul, Nat.add_zero, Nat.zero_min]

theorem log2_mul_pow (m k : Nat) (h : m ≠ 0) : (m * 2 ^ k).log2 = m.log2 + k := by
  have hk := Nat.two_pow_pos k
  rw [Nat.log2_eq_iff (Nat.mul_ne_zero h (by omega))]
  obtain ⟨h1, h2⟩ := (Nat.log2_eq_iff h).1 rfl
  constructor
  · rw [Nat.pow_add]; exact Nat.mul_le_mul_right _ h1
  · rw [show m.log2 + k + 1 = m.log2 + 1 + k from by omega, Nat.pow_add]; exact Nat.mul_lt_mul_of_pos_right h2 hk

theorem nearest_eq (neg : Bool) (mag : Nat) (place : Int) (hp : -2148 ≤ place) : double.nearest neg mag place = double.word neg (R (mag * 2 ^ (place + 2148).toNat)) := by
  by_cases h0 : mag = 0
  · subst h0
    unfold Format.nearest
    rw [if_pos rfl, Nat.zero_mul, R_zero]
  · unfold Format.nearest
    rw [if_neg h0]
    simp only [lp_eq, fb_eq, binade_eq, infRung_eq]
    refine congrArg (double.word neg) ?_
    unfold R
    refine congrArg (fun x => min x inf) ?_
    have hK := K_eq
    have hl : (mag * 2 ^ (place + 2148).toNat).log2 = mag.log2 + (place + 2148).toNat := log2_mul_pow _ _ h0
    have he : max (place + (mag.log2 : Int) - 52) (-1074) = (ex (mag * 2 ^ (place + 2148).toNat) : Int) - 2148 := by
      unfold ex; rw [hl]; omega
    rw [show ((52 : Nat) : Int) = 52 from rfl, he]
    generalize hN : mag * 2 ^ (place + 2148).toNat = N at *
    have hex := ex_ge N
    rw [cut_eq, Nat.shiftLeft_eq]
    refine congr (congrArg HAdd.hAdd (congrArg (fun x => x * B) (by omega))) ?_
    · by_cases hc : place ≤ (ex N : Int) - 2148
      · have e1 : (place - ((ex N : Int) - 2148)).toNat = 0 := by omega
        rw [e1, Nat.pow_zero, Nat.mul_one, ← hN]
        rw [hN]
        have e2 : ex N = ((ex N : Int) - 2148 - place).toNat + (place + 2148).toNat := by omega
        calc rhe mag ((ex N : Int) - 2148 - place).toNat = rhe (mag * 2 ^ (place + 2148).toNat) (((ex N : Int) - 2148 - place).toNat + (place + 2148).toNat) := (rhe_scale _ _ _).symm
          _ = rhe N (ex N) := by rw [hN, ← e2]
      · have e1 : ((ex N : Int) - 2148 - place).toNat = 0 := by omega
        rw [e1, rhe_zero]
        have e2 : (place + 2148).toNat = (place - ((ex N : Int) - 2148)).toNat + ex N := by omega
        calc mag * 2 ^ (place - ((ex N : Int) - 2148)).toNat = rhe (mag * 2 ^ (place - ((ex N : Int) - 2148)).toNat) 0 := (rhe_zero _).symm
          _ = rhe (mag * 2 ^ (place - ((ex N : Int) - 2148)).toNat * 2 ^ ex N) (0 + ex N) := (rhe_scale _ _ _).symm
          _ = rhe N (ex N) := by rw [Nat.mul_assoc, ← Nat.pow_add, ← e2, hN, Nat.zero_add]

theorem ex_mono {n m : Nat} (h : n ≤ m) : ex n ≤ ex m := by
  unfold ex
  have : n.log2 ≤ m.log2 := by
    by_cases h0 : n = 0
    · subst h0; simp
    · exact (Nat.le_log2 (by omega)).2 (Nat.le_trans ((Nat.le_log2 h0).1 (Nat.le_refl _)) h)
  omega

theorem rhe_top (N : Nat) : rhe N (ex N) ≤ 2 * B := by
  have h1 : N < 2 ^ (N.log2 + 1) := Nat.lt_log2_self
  have h2 : N < 2 ^ (53 + ex N) := Nat.lt_of_lt_of_le h1 (Nat.pow_le_pow_right (by decide) (by unfold ex; omega))
  rw [Nat.pow_add] at h2
  have h3 : N / 2 ^ ex N < 2 ^ 53 := (Nat.div_lt_iff_lt_mul (Nat.two_pow_pos _)).2 h2
  have h4 := rhe_le N (ex N)
  have h5 : (2 : Nat) ^ 53 = 2 * B := by unfold B; rfl
  omega

theorem R_mono {n m : Nat} (h : n ≤ m) : R n ≤ R m := by
  unfold R
  have hx := ex_mono h
  have key : (ex n - K) * B + rhe n (ex n) ≤ (ex m - K) * B + rhe m (ex m) := by
    rcases Nat.lt_or_eq_of_le hx with hlt | heq
    · have h1 := rhe_top n
      have g := ex_ge n
      have h2 : ex m = m.log2 - 52 := by unfold ex at hlt g ⊢; omega
      have hm0 : m ≠ 0 := by intro e; subst e; simp at h2; have := ex_ge 0; omega
      have h3 : 2 ^ m.log2 ≤ m := Nat.log2_self_le hm0
      have h4 : m.log2 = 52 + ex m := by omega
      have h5 : 2 ^ 52 * 2 ^ ex m ≤ m := by rw [← Nat.pow_add, ← h4]; exact h3
      have h6 : 2 ^ 52 ≤ m / 2 ^ ex m := (Nat.le_div_iff_mul_le (Nat.two_pow_pos _)).2 h5
      have h7 := le_rhe m (ex m)
      rw [← B_pow] at h6
      have h8 : (ex n - K) * B + B ≤ (ex m - K) * B := by
        have : (ex n - K) + 1 ≤ ex m - K := by omega
        calc (ex n - K) * B + B = ((ex n - K) + 1) * B := by rw [Nat.add_mul, Nat.one_mul]
          _ ≤ _ := Nat.mul_le_mul_right _ this
      omega
    · rw [heq]; exact Nat.add_le_add_left (rhe_mono _ h) _
  omega

/-- The value of a finite rung, in units of '2 ^ -1074'. -/
def vr (r : Nat) : Nat := if r < B then r else (B + r % B) * 2 ^ (r / B - 1)

theorem R_rep {r : Nat} (h : r < inf) : R (vr r * P) = r := by
  have hB : 0 < B := by unfold B; omega
  have hK := K_eq
  unfold P
  by_cases hs : r < B
  · have e : vr r = r := by unfold vr; rw [if_pos hs]
    have hx : ex (r * 2 ^ K) = K := by
      by_cases h0 : r = 0
      · subst h0; unfold ex; simp
      · unfold ex
        rw [log2_mul_pow _ _ h0]
        have : r.log2 < 52 := (Nat.log2_lt h0).2 (by rw [← B_pow]; exact hs)
        omega
    rw [e]; unfold R
    rw [hx]
    have := rhe_scale r 0 K
    rw [Nat.zero_add] at this
    rw [this, rhe_zero, Nat.sub_self, Nat.zero_mul, Nat.zero_add]
    exact Nat.min_eq_left (Nat.le_of_lt h)
  · have e : vr r = (B + r % B) * 2 ^ (r / B - 1) := by unfold vr; rw [if_neg hs]
    have hq : 1 ≤ r / B := (Nat.le_div_iff_mul_le hB).2 (by omega)
    have hm : r % B < B := Nat.mod_lt _ hB
    have hb : B + r % B ≠ 0 := by omega
    have hlog : (B + r % B).log2 = 52 := by
      rw [Nat.log2_eq_iff hb]
      have h53 : (2 : Nat) ^ (52 + 1) = 2 * B := by unfold B; rfl
      rw [h53, ← B_pow]; omega
    have hx : ex ((B + r % B) * 2 ^ (r / B - 1 + K)) = r / B - 1 + K := by
      unfold ex
      rw [log2_mul_pow _ _ hb, hlog]; omega
    rw [e]; unfold R
    rw [Nat.mul_assoc, ← Nat.pow_add, hx]
    have := rhe_scale (B + r % B) 0 (r / B - 1 + K)
    rw [Nat.zero_add] at this
    rw [this, rhe_zero, Nat.add_sub_cancel]
    have hd := Nat.div_add_mod r B
    have : (r / B - 1) * B + B = B * (r / B) := by
      rw [Nat.mul_comm B, ← Nat.succ_mul]; congr 1; omega
    have e2 : (r / B - 1) * B + (B + r % B) = r := by omega
    rw [e2]; exact Nat.min_eq_left (Nat.le_of_lt h)

theorem vr_le {r t : Nat} (hr : r < inf) (ht : t < inf) : vr r ≤ vr t ↔ r ≤ t := by
  have key : ∀ {r t : Nat}, r < inf → t < inf → vr r ≤ vr t → r ≤ t := by
    intro r t hr ht h
    have := R_mono (Nat.mul_le_mul_right P h)
    rwa [R_rep hr, R_rep ht] at this
  refine ⟨key hr ht, fun h => ?_⟩
  rcases Nat.lt_or_ge (vr t) (vr r) with hlt | hge
  · have := key ht hr (Nat.le_of_lt hlt)
    have : r = t := by omega
    subst this; omega
  · exact hge

theorem vr_lt {r t : Nat} (hr : r < inf) (ht : t < inf) : vr r < vr t ↔ r < t := by
  have := vr_le ht hr; omega

theorem vr_eq {r t : Nat} (hr : r < inf) (ht : t < inf) : vr r = vr t ↔ r = t := by
  have h1 := vr_le ht hr; have h2 := vr_le hr ht; omega

theorem vr_zero : vr 0 = 0 := by unfold vr; rw [if_pos (by unfold B; omega)]
theorem vr_pos {r : Nat} (h : 0 < r) : 0 < vr r := by
  unfold vr
  split
  · exact h
  · exact Nat.mul_pos (by unfold B; omega) (Nat.two_pow_pos _)

end Go.Proofs.Ytkakhjaaakophaa.Fl
