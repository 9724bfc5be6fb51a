/- Plain facts on the model's double floats: floats that are not numbers told as one; order, product and sum by rungs. No program in sight. -/
import Derived.Test.YtkakhjaaakophaaFloat
import Derived.Laws.FloatBits
import GoSem.Core.Sem
namespace Go.Proofs.Ytkakhjaaakophaa.Fl
open Ieee

/-- Is it no number? -/
def nanB (x : Nat) : Bool := (double.read x).isNaN
/-- A float; all that are no numbers told as one. -/
def ab (x : Nat) : Option Nat := if nanB x then none else some x

theorem ab_none {x : Nat} (h : nanB x = true) : ab x = none := by unfold ab; rw [if_pos h]
theorem ab_some {x : Nat} (h : nanB x = false) : ab x = some x := by unfold ab; rw [if_neg (by simp [h])]
theorem ab_eq_some {x y : Nat} (h : ab x = some y) : nanB x = false ∧ x = y := by
  unfold ab at h; split at h
  · cases h
  · rename_i hn; cases h; exact ⟨by simpa using hn, rfl⟩
theorem ab_eq_none {x : Nat} (h : ab x = none) : nanB x = true := by
  unfold ab at h; split at h
  · assumption
  · cases h

/-- The two operations and the order, of floats so told. -/
def amul : Option Nat → Option Nat → Option Nat
  | some x, some y => double.mul x y
  | _, _ => none
def aadd : Option Nat → Option Nat → Option Nat
  | some x, some y => double.add x y
  | _, _ => none
def adiv : Option Nat → Option Nat → Option Nat
  | some x, some y => double.div x y
  | _, _ => none
def aord : Option Nat → Option Nat → Option Ordering
  | some x, some y => double.order x y
  | _, _ => none

theorem read_nan {x : Nat} (h : nanB x = true) : ∃ s t, double.read x = .nan s t := by
  unfold nanB Datum.isNaN at h
  split at h
  · rename_i s t e; exact ⟨s, t, e⟩
  · cases h

theorem mul_ab (x y : Nat) : double.mul x y = amul (ab x) (ab y) := by
  by_cases hx : nanB x = true
  · obtain ⟨s, t, e⟩ := read_nan hx
    rw [ab_none hx]; unfold Format.mul; rw [e]; rfl
  · have hx : nanB x = false := by simpa using hx
    by_cases hy : nanB y = true
    · obtain ⟨s, t, e⟩ := read_nan hy
      rw [ab_none hy, ab_some hx]; unfold Format.mul; rw [e]
      cases double.read x <;> rfl
    · rw [ab_some hx, ab_some (by simpa using hy)]; rfl

theorem add_ab (x y : Nat) : double.add x y = aadd (ab x) (ab y) := by
  by_cases hx : nanB x = true
  · obtain ⟨s, t, e⟩ := read_nan hx
    rw [ab_none hx]; unfold Format.add; rw [e]; rfl
  · have hx : nanB x = false := by simpa using hx
    by_cases hy : nanB y = true
    · obtain ⟨s, t, e⟩ := read_nan hy
      rw [ab_none hy, ab_some hx]; unfold Format.add; rw [e]
      cases double.read x <;> rfl
    · rw [ab_some hx, ab_some (by simpa using hy)]; rfl

theorem div_ab (x y : Nat) : double.div x y = adiv (ab x) (ab y) := by
  by_cases hx : nanB x = true
  · obtain ⟨s, t, e⟩ := read_nan hx
    rw [ab_none hx]; unfold Format.div; rw [e]; rfl
  · have hx : nanB x = false := by simpa using hx
    by_cases hy : nanB y = true
    · obtain ⟨s, t, e⟩ := read_nan hy
      rw [ab_none hy, ab_some hx]; unfold Format.div; rw [e]
      cases double.read x <;> rfl
    · rw [ab_some hx, ab_some (by simpa using hy)]; rfl

theorem order_ab (x y : Nat) : double.order x y = aord (ab x) (ab y) := by
  by_cases hx : nanB x = true
  · obtain ⟨s, t, e⟩ := read_nan hx
    rw [ab_none hx]; unfold Format.order; rw [e]; rfl
  · have hx : nanB x = false := by simpa using hx
    by_cases hy : nanB y = true
    · obtain ⟨s, t, e⟩ := read_nan hy
      rw [ab_none hy, ab_some hx]; unfold Format.order; rw [e]
      cases double.read x <;> rfl
    · rw [ab_some hx, ab_some (by simpa using hy)]; rfl

theorem word_sign (neg : Bool) {rung : Nat} (h : rung < sw) : double.word neg rung / sw % 2 = neg.toNat ∧ double.word neg rung % sw = rung := by
  unfold Format.word
  rw [sw_eq]
  have hs : sw = 9223372036854775808 := rfl
  cases neg
  · simp only [Bool.false_eq_true, if_false, Bool.toNat_false]
    exact ⟨by rw [Nat.div_eq_of_lt h], Nat.mod_eq_of_lt h⟩
  · simp only [if_true, Bool.toNat_true]
    rw [hs] at h ⊢
    omega

/-- A word whose rung is no more than infinity's is a number. -/
theorem nan_word (neg : Bool) {rung : Nat} (h : rung ≤ inf) : nanB (double.word neg rung) = false := by
  have hlt : rung < sw := by have h1 : inf = 9218868437227405312 := rfl; have h2 : sw = 9223372036854775808 := rfl; omega
  obtain ⟨_, h2⟩ := word_sign neg hlt
  unfold nanB Format.read
  simp only [sw_eq, binade_eq, infRung_eq, h2]
  by_cases a : rung < B
  · rw [if_pos a]; rfl
  · rw [if_neg a]
    by_cases b : rung < inf
    · rw [if_pos b]; rfl
    · rw [if_neg b, if_pos (by omega)]; rfl

theorem nan_nearest (neg : Bool) (mag : Nat) (place : Int) : nanB (double.nearest neg mag place) = false := by
  unfold Format.nearest
  split
  · exact nan_word neg (Nat.zero_le _)
  · refine nan_word neg ?_
    rw [infRung_eq]; exact Nat.min_le_right _ _

theorem nan_write {d : Datum} (h : d.isNaN = false) : nanB (double.write d) = false := by
  cases d with
  | number n m p => exact nan_nearest n m p
  | infinity s => unfold Format.write; rw [infRung_eq]; exact nan_word s (Nat.le_refl _)
  | nan s t => cases h

theorem mul_num {x y z : Nat} (h : double.mul x y = some z) : nanB z = false := by
  unfold Format.mul at h
  cases hp : (double.read x).product (double.read y) with
  | none => rw [hp] at h; cases h
  | some d =>
    rw [hp] at h; cases h
    refine nan_write ?_
    revert hp
    cases double.read x <;> cases double.read y <;> simp only [Datum.product] <;> intro hp <;> first | (cases hp; done) | (cases hp; rfl) | (split at hp <;> cases hp; rfl)

theorem add_num {x y z : Nat} (h : double.add x y = some z) : nanB z = false := by
  unfold Format.add at h
  cases hp : (double.read x).sum (double.read y) with
  | none => rw [hp] at h; cases h
  | some d =>
    rw [hp] at h; cases h
    refine nan_write ?_
    revert hp
    cases double.read x <;> cases double.read y <;> simp only [Datum.sum] <;> intro hp <;> first | (cases hp; done) | (cases hp; rfl) | (split at hp <;> cases hp; rfl)

/-- What a product, or a sum, comes to: of no number, something that is none. -/
theorem mul_res {x y z : Nat} (h : double.mul x y = some z ∨ (double.mul x y = none ∧ nanB z = true)) : ab z = amul (ab x) (ab y) := by
  rw [← mul_ab]
  rcases h with h | ⟨h, hn⟩
  · rw [h]; exact ab_some (mul_num h)
  · rw [h]; exact ab_none hn
theorem add_res {x y z : Nat} (h : double.add x y = some z ∨ (double.add x y = none ∧ nanB z = true)) : ab z = aadd (ab x) (ab y) := by
  rw [← add_ab]
  rcases h with h | ⟨h, hn⟩
  · rw [h]; exact ab_some (add_num h)
  · rw [h]; exact ab_none hn

/-- What the model draws for an operation that has no answer is no number. -/
theorem nan_drawn (x y t : Nat) : nanB (Question.cut (.nanBits .f64 x y) t) = true := by
  have hq : Question.cut (.nanBits .f64 x y) t = (t % 2) * 2 ^ 63 + 0x7ff0000000000000 + 1 + (t / 2) % (2 ^ 52 - 1) := rfl
  rw [hq]
  have h63 : (2 : Nat) ^ 63 = sw := by rw [← sw_eq]; rfl
  have h52 : (2 : Nat) ^ 52 = B := B_pow.symm
  have hb0 : 0 < B - 1 := by unfold B; omega
  have hm : (t / 2) % (B - 1) < B - 1 := Nat.mod_lt _ hb0
  have hi : (0x7ff0000000000000 : Nat) = inf := by unfold inf; rfl
  rw [h63, h52, hi]
  have ht : t % 2 < 2 := Nat.mod_lt _ (by decide)
  have hs : inf + B = sw := by have := double.infRung_add_binade; rwa [infRung_eq, binade_eq, sw_eq] at this
  generalize (t / 2) % (B - 1) = m at *
  generalize t % 2 = u at *
  have h2 : (u * sw + inf + 1 + m) % sw = inf + 1 + m := by
    rw [Nat.add_assoc, Nat.add_assoc, Nat.add_comm, Nat.add_mul_mod_self_right, Nat.mod_eq_of_lt (by omega), Nat.add_assoc]
  unfold nanB Format.read
  simp only [sw_eq, binade_eq, infRung_eq, h2]
  have hbi : B ≤ inf := by unfold B inf; omega
  rw [if_neg (by omega), if_neg (by omega), if_neg (by omega)]
  rfl

theorem cmp_lt {a b : Int} (h : a < b) : compare a b = .lt := by simp [compare, compareOfLessAndEq, h]
theorem cmp_gt {a b : Int} (h : b < a) : compare a b = .gt := by
  have h1 : ¬ a < b := by omega
  have h2 : ¬ a = b := by omega
  simp [compare, compareOfLessAndEq, h1, h2]
theorem cmp_eq (a : Int) : compare a a = .eq := by simp [compare, compareOfLessAndEq]
theorem ncmp_lt {a b : Nat} (h : a < b) : compare a b = .lt := by simp [compare, compareOfLessAndEq, h]
theorem ncmp_gt {a b : Nat} (h : b < a) : compare a b = .gt := by
  have h1 : ¬ a < b := by omega
  have h2 : ¬ a = b := by omega
  simp [compare, compareOfLessAndEq, h1, h2]
theorem ncmp_eq (a : Nat) : compare a a = .eq := by simp [compare, compareOfLessAndEq]

/-! ### Floats that are not negative, by their rungs -/
/-- 'x' is not negative (it may be the negative nought), and its rung is r. -/
def NN (x r : Nat) : Prop := (r < inf ∧ ∃ s m i, double.read x = .number s m i ∧ -1074 ≤ i ∧ m * 2 ^ (i + 1074).toNat = vr r ∧ (s = true → r = 0)) ∨ (r = inf ∧ double.read x = .infinity false)

theorem read_finite {x : Nat} (neg : Bool) {r : Nat} (hx : x = double.word neg r) (h : r < inf) :
    ∃ m i, double.read x = .number neg m i ∧ -1074 ≤ i ∧ m * 2 ^ (i + 1074).toNat = vr r := by
  have hlt : r < sw := by have h1 : inf = 9218868437227405312 := rfl; have h2 : sw = 9223372036854775808 := rfl; omega
  obtain ⟨h1, h2⟩ := word_sign neg hlt
  subst hx
  have hs : (double.word neg r / sw % 2 == 1) = neg := by rw [h1]; cases neg <;> rfl
  unfold Format.read
  simp only [sw_eq, binade_eq, infRung_eq, h2, lp_eq, hs]
  by_cases a : r < B
  · rw [if_pos a]
    exact ⟨r, -1074, rfl, by omega, by rw [show ((-1074 : Int) + 1074).toNat = 0 from rfl, Nat.pow_zero, Nat.mul_one]; unfold vr; rw [if_pos a]⟩
  · rw [if_neg a, if_pos h]
    refine ⟨B + r % B, -1074 + ((r / B - 1 : Nat) : Int), rfl, by omega, ?_⟩
    have e : ((-1074 : Int) + ((r / B - 1 : Nat) : Int) + 1074).toNat = r / B - 1 := by omega
    rw [e]; unfold vr; rw [if_neg a]

theorem read_inf : double.read inf = .infinity false := by decide +kernel

theorem NN.read {x r : Nat} (h : NN x r) : (r < inf ∧ ∃ s m i, double.read x = .number s m i ∧ -1074 ≤ i ∧ m * 2 ^ (i + 1074).toNat = vr r ∧ (s = true → r = 0)) ∨ (r = inf ∧ double.read x = .infinity false) := h

theorem NN.le {x r : Nat} (h : NN x r) : r ≤ inf := by rcases h with ⟨h, _⟩ | ⟨rfl, _⟩ <;> omega

/-- A rung is its own float. -/
theorem NN.word (s : Bool) {r : Nat} (h : r ≤ inf) (hs : s = true → r = 0) : NN (double.word s r) r := by
  rcases Nat.lt_or_eq_of_le h with hlt | heq
  · obtain ⟨m, i, h1, h2, h3⟩ := read_finite s (x := double.word s r) (r := r) rfl hlt
    exact .inl ⟨hlt, s, m, i, h1, h2, h3, hs⟩
  · subst heq
    cases s
    · exact .inr ⟨rfl, read_inf⟩
    · have := hs rfl; unfold inf at this; omega
theorem NN.inf : NN inf inf := .inr ⟨rfl, read_inf⟩

theorem NN.num {x r : Nat} (h : NN x r) : nanB x = false := by
  unfold nanB
  rcases h.read with ⟨_, s, m, i, e, _⟩ | ⟨_, e⟩ <;> rw [e] <;> rfl

/-- The value of a datum that is a number, in units of '2 ^ -1074'. -/
def val (s : Bool) (m : Nat) (i : Int) : Int := if s then -((m * 2 ^ (i + 1074).toNat : Nat) : Int) else ((m * 2 ^ (i + 1074).toNat : Nat) : Int)

theorem signed_scale (s : Bool) (m : Nat) (i base : Int) (h : base ≤ i) (hb : -1074 ≤ base) : signed s m (i - base).toNat * ((2 ^ (base + 1074).toNat : Nat) : Int) = val s m i := by
  unfold signed val
  have e : (i + 1074).toNat = (i - base).toNat + (base + 1074).toNat := by omega
  rw [e, Nat.pow_add, ← Nat.mul_assoc, Nat.shiftLeft_eq]
  cases s
  · simp only [Bool.false_eq_true, if_false, Int.natCast_mul]
  · simp only [if_true, Int.natCast_mul, Int.neg_mul]

theorem compare_scale (a b : Int) (k : Nat) (hk : 0 < k) : compare (a * (k : Int)) (b * (k : Int)) = compare a b := by
  have hk' : (0 : Int) < k := by omega
  rcases Int.lt_trichotomy a b with h | h | h
  · rw [cmp_lt h, cmp_lt (Int.mul_lt_mul_of_pos_right h hk')]
  · subst h; rw [cmp_eq, cmp_eq]
  · rw [cmp_gt h, cmp_gt (Int.mul_lt_mul_of_pos_right h hk')]

theorem order_number {x y : Nat} {s t : Bool} {m n : Nat} {i j : Int} (hx : double.read x = .number s m i) (hy : double.read y = .number t n j) (hi : -1074 ≤ i) (hj : -1074 ≤ j) :
    double.order x y = some (compare (val s m i) (val t n j)) := by
  unfold Format.order
  rw [hx, hy]
  simp only [Datum.order]
  rw [← signed_scale s m i (min i j) (by omega) (by omega), ← signed_scale t n j (min i j) (by omega) (by omega), compare_scale _ _ _ (Nat.two_pow_pos _)]

theorem val_NN {s : Bool} {m r : Nat} {i : Int} (h : m * 2 ^ (i + 1074).toNat = vr r) (hs : s = true → r = 0) : val s m i = (vr r : Int) := by
  unfold val; rw [h]
  cases s
  · rfl
  · rw [hs rfl, vr_zero]; rfl

theorem order_NN {x y r t : Nat} (hx : NN x r) (hy : NN y t) : double.order x y = some (compare r t) := by
  have hxl := hx.le; have hyl := hy.le
  rcases hx.read with ⟨h1, s, m, i, e1, h2, h3, h4⟩ | ⟨h1, e1⟩ <;> rcases hy.read with ⟨k1, s', m', i', e2, k2, k3, k4⟩ | ⟨k1, e2⟩
  · rw [order_number e1 e2 h2 k2, val_NN h3 h4, val_NN k3 k4]
    congr 1
    rcases Nat.lt_trichotomy r t with h | h | h
    · rw [ncmp_lt h, cmp_lt (by exact_mod_cast (vr_lt h1 k1).2 h)]
    · subst h; rw [ncmp_eq, cmp_eq]
    · rw [ncmp_gt h, cmp_gt (by exact_mod_cast (vr_lt k1 h1).2 h)]
  · unfold Format.order; rw [e1, e2]; simp only [Datum.order]
    rw [ncmp_lt (show r < t by omega)]; rfl
  · unfold Format.order; rw [e1, e2]; simp only [Datum.order]
    rw [ncmp_gt (show t < r by omega)]; rfl
  · unfold Format.order; rw [e1, e2]; simp only [Datum.order]
    rw [show r = t by omega, ncmp_eq, ncmp_eq]

theorem R_le (N : Nat) : R N ≤ inf := Nat.min_le_right _ _
/-- Rungs of a product and of a sum. -/
def M (r t : Nat) : Nat := if r = inf ∨ t = inf then inf else R (vr r * vr t)
def A (r t : Nat) : Nat := if r = inf ∨ t = inf then inf else R ((vr r + vr t) * P)

theorem mul_NN {x y r t : Nat} (hx : NN x r) (hy : NN y t) (h1 : ¬ (r = inf ∧ t = 0)) (h2 : ¬ (r = 0 ∧ t = inf)) : ∃ z, double.mul x y = some z ∧ NN z (M r t) := by
  unfold Format.mul M
  rcases hx.read with ⟨a1, s, m, i, e1, a2, a3, a4⟩ | ⟨a1, e1⟩ <;> rcases hy.read with ⟨b1, s', m', i', e2, b2, b3, b4⟩ | ⟨b1, e2⟩
  · rw [e1, e2, if_neg (by omega)]
    simp only [Datum.product, Option.map_some, Format.write]
    refine ⟨_, rfl, ?_⟩
    rw [nearest_eq _ _ _ (by omega)]
    have hm : m * m' * 2 ^ (i + i' + 2148).toNat = vr r * vr t := by
      rw [← a3, ← b3, show (i + i' + 2148).toNat = (i + 1074).toNat + (i' + 1074).toNat from by omega, Nat.pow_add]
      ac_rfl
    rw [hm]
    refine NN.word _ (R_le _) fun hs => ?_
    have h0 : r = 0 ∨ t = 0 := by
      cases s
      · cases s'
        · cases hs
        · exact .inr (b4 rfl)
      · exact .inl (a4 rfl)
    rcases h0 with rfl | rfl
    · rw [vr_zero, Nat.zero_mul, R_zero]
    · rw [vr_zero, Nat.mul_zero, R_zero]
  · rw [e1, e2, if_pos (.inr b1)]
    simp only [Datum.product]
    have hm : ¬ m = 0 := by
      rintro rfl
      have hv : vr r = 0 := by rw [← a3, Nat.zero_mul]
      have : ¬ 0 < r := fun h => by have := vr_pos h; omega
      exact h2 ⟨by omega, b1⟩
    have hs : s = false := by
      cases s
      · rfl
      · exact absurd ⟨a4 rfl, b1⟩ h2
    rw [if_neg hm, hs]
    exact ⟨_, rfl, by simp only [Format.write, infRung_eq]; exact NN.inf⟩
  · rw [e1, e2, if_pos (.inl a1)]
    simp only [Datum.product]
    have hm : ¬ m' = 0 := by
      rintro rfl
      have hv : vr t = 0 := by rw [← b3, Nat.zero_mul]
      have : ¬ 0 < t := fun h => by have := vr_pos h; omega
      exact h1 ⟨a1, by omega⟩
    have hs : s' = false := by
      cases s'
      · rfl
      · exact absurd ⟨a1, b4 rfl⟩ h1
    rw [if_neg hm, hs]
    exact ⟨_, rfl, by simp only [Format.write, infRung_eq]; exact NN.inf⟩
  · rw [e1, e2, if_pos (.inl a1)]
    simp only [Datum.product]
    exact ⟨_, rfl, by simp only [Format.write, infRung_eq]; exact NN.inf⟩

theorem add_NN {x y r t : Nat} (hx : NN x r) (hy : NN y t) : ∃ z, double.add x y = some z ∧ NN z (A r t) := by
  unfold Format.add A
  rcases hx.read with ⟨a1, s, m, i, e1, a2, a3, a4⟩ | ⟨a1, e1⟩ <;> rcases hy.read with ⟨b1, s', m', i', e2, b2, b3, b4⟩ | ⟨b1, e2⟩
  · rw [e1, e2, if_neg (by omega)]
    simp only [Datum.sum, Option.map_some, Format.write]
    refine ⟨_, rfl, ?_⟩
    generalize hT : signed s m (i - min i i').toNat + signed s' m' (i' - min i i').toNat = T
    have hv : T * ((2 ^ (min i i' + 1074).toNat : Nat) : Int) = ((vr r + vr t : Nat) : Int) := by
      rw [← hT, Int.add_mul, signed_scale s m i _ (by omega) (by omega), signed_scale s' m' i' _ (by omega) (by omega), val_NN a3 a4, val_NN b3 b4, Int.natCast_add]
    have hp : (0 : Int) < ((2 ^ (min i i' + 1074).toNat : Nat) : Int) := by have := Nat.two_pow_pos (min i i' + 1074).toNat; omega
    have hT0 : 0 ≤ T := by
      rcases Int.lt_or_le T 0 with h | h
      · have := Int.mul_lt_mul_of_pos_right h hp; rw [hv, Int.zero_mul] at this; omega
      · exact h
    rw [nearest_eq _ _ _ (by omega)]
    have hN : T.natAbs * 2 ^ (min i i' + 2148).toNat = (vr r + vr t) * P := by
      have e : (min i i' + 2148).toNat = (min i i' + 1074).toNat + K := by rw [K_eq]; omega
      have hn : T.natAbs * 2 ^ (min i i' + 1074).toNat = vr r + vr t := by
        have h1 : ((T.natAbs * 2 ^ (min i i' + 1074).toNat : Nat) : Int) = ((vr r + vr t : Nat) : Int) := by
          rw [Int.natCast_mul, Int.natAbs_of_nonneg hT0]; exact hv
        exact Int.natCast_inj.1 h1
      rw [e, Nat.pow_add, ← Nat.mul_assoc, hn]; rfl
    rw [hN]
    refine NN.word _ (R_le _) fun hs => ?_
    by_cases h0 : T = 0
    · have : vr r + vr t = 0 := by rw [h0, Int.zero_mul] at hv; omega
      rw [this, Nat.zero_mul, R_zero]
    · rw [if_neg h0] at hs
      have := of_decide_eq_true hs
      omega
  · rw [e1, e2, if_pos (.inr b1)]
    exact ⟨_, rfl, by simp only [Format.write, infRung_eq]; exact NN.inf⟩
  · rw [e1, e2, if_pos (.inl a1)]
    exact ⟨_, rfl, by simp only [Format.write, infRung_eq]; exact NN.inf⟩
  · rw [e1, e2, if_pos (.inl a1)]
    simp only [Datum.sum, if_true]
    exact ⟨_, rfl, by simp only [Format.write, infRung_eq]; exact NN.inf⟩

theorem M_mono {k r t : Nat} (h : r ≤ t) (ht : t ≤ inf) : M k r ≤ M k t := by
  unfold M
  by_cases h1 : k = inf ∨ t = inf
  · rw [if_pos h1]; split
    · exact Nat.le_refl _
    · exact R_le _
  · have h2 : ¬ (k = inf ∨ r = inf) := by omega
    rw [if_neg h1, if_neg h2]
    exact R_mono (Nat.mul_le_mul_left _ ((vr_le (by omega) (by omega)).2 h))

theorem A_mono {r t g : Nat} (h : r ≤ t) (ht : t ≤ inf) : A r g ≤ A t g := by
  unfold A
  by_cases h1 : t = inf ∨ g = inf
  · rw [if_pos h1]; split
    · exact Nat.le_refl _
    · exact R_le _
  · have h2 : ¬ (r = inf ∨ g = inf) := by omega
    rw [if_neg h1, if_neg h2]
    exact R_mono (Nat.mul_le_mul_right _ (Nat.add_le_add_right ((vr_le (by omega) (by omega)).2 h) _))

theorem A_ge {r g : Nat} (hr : r ≤ inf) : r ≤ A r g := by
  unfold A
  split
  · exact hr
  · rename_i h
    have hlt : r < inf := by omega
    have := R_mono (Nat.mul_le_mul_right P (Nat.le_add_right (vr r) (vr g)))
    rwa [R_rep hlt] at this

theorem M_le (k r : Nat) : M k r ≤ inf := by unfold M; split; exact Nat.le_refl _; exact R_le _
theorem A_le (k r : Nat) : A k r ≤ inf := by unfold A; split; exact Nat.le_refl _; exact R_le _
theorem M_zero {k : Nat} (hk : k < inf) : M k 0 = 0 := by
  have h0 : ¬ (0 : Nat) = inf := by unfold inf; omega
  unfold M; rw [if_neg (by omega), vr_zero, Nat.mul_zero, R_zero]
theorem M_zero' {r : Nat} (hk : r < inf) : M 0 r = 0 := by
  have h0 : ¬ (0 : Nat) = inf := by unfold inf; omega
  unfold M; rw [if_neg (by omega), vr_zero, Nat.zero_mul, R_zero]
theorem A_zero {g : Nat} (hg : g < inf) : A 0 g = g := by
  have h0 : ¬ (0 : Nat) = inf := by unfold inf; omega
  unfold A; rw [if_neg (by omega), vr_zero, Nat.zero_add, R_rep hg]

/-! ### Whatever float: what it stands for -/
theorem read_cases (x : Nat) : (∃ s r m i, r < inf ∧ double.read x = .number s m i ∧ -1074 ≤ i ∧ m * 2 ^ (i + 1074).toNat = vr r) ∨ (∃ s, double.read x = .infinity s) ∨ nanB x = true := by
  unfold nanB Format.read
  simp only [sw_eq, binade_eq, infRung_eq, lp_eq]
  by_cases a : x % sw < B
  · rw [if_pos a]
    have hb : B < inf := by unfold B inf; omega
    exact .inl ⟨_, x % sw, x % sw, -1074, by omega, rfl, by omega, by rw [show ((-1074 : Int) + 1074).toNat = 0 from rfl, Nat.pow_zero, Nat.mul_one]; unfold vr; rw [if_pos a]⟩
  · rw [if_neg a]
    by_cases b : x % sw < inf
    · rw [if_pos b]
      refine .inl ⟨_, x % sw, _, _, b, rfl, by omega, ?_⟩
      have e : ((-1074 : Int) + ((x % sw / B - 1 : Nat) : Int) + 1074).toNat = x % sw / B - 1 := by omega
      rw [e]; unfold vr; rw [if_neg a]
    · rw [if_neg b]
      by_cases c : x % sw = inf
      · rw [if_pos c]; exact .inr (.inl ⟨_, rfl⟩)
      · rw [if_neg c]; exact .inr (.inr rfl)

theorem zero_read : double.read 0 = .number false 0 (-1074) := by decide +kernel

/-- Of a number that isn't below 0. -/
theorem NN_of_geq {x : Nat} (h : double.order x 0 = some .gt ∨ double.order x 0 = some .eq) : ∃ r, NN x r := by
  rcases read_cases x with ⟨s, r, m, i, hr, e, hi, hv⟩ | ⟨s, e⟩ | hn
  · refine ⟨r, .inl ⟨hr, s, m, i, e, hi, hv, fun hs => ?_⟩⟩
    rw [order_number e zero_read hi (by omega)] at h
    subst hs
    have hz : val false 0 (-1074) = 0 := by unfold val; simp
    have hx : val true m i = -(vr r : Int) := by unfold val; rw [if_pos rfl, hv]
    rw [hz, hx] at h
    by_cases h0 : r = 0
    · exact h0
    · have hp := vr_pos (r := r) (by omega)
      rw [cmp_lt (by omega)] at h
      rcases h with h | h <;> cases h
  · cases s
    · exact ⟨inf, .inr ⟨rfl, e⟩⟩
    · unfold Format.order at h; rw [e, zero_read] at h
      simp only [Datum.order] at h
      rcases h with h | h <;> cases h
  · rw [order_ab, ab_none hn] at h
    rcases h with h | h <;> cases h

theorem order_none {y : Nat} (x : Nat) (h : nanB y = true) : double.order x y = none := by rw [order_ab, ab_none h]; cases ab x <;> rfl

/-- Not below, from one to the next. -/
def Geq (x y : Nat) : Prop := double.order x y = some .gt ∨ double.order x y = some .eq

theorem cmp_geq (a b : Int) : (some (compare a b) = some Ordering.gt ∨ some (compare a b) = some Ordering.eq) ↔ b ≤ a := by
  rcases Int.lt_trichotomy a b with h | h | h
  · rw [cmp_lt h]; constructor
    · intro h; rcases h with h | h <;> cases h
    · intro h2; omega
  · subst h; rw [cmp_eq]; simp
  · rw [cmp_gt h]; constructor
    · intro _; omega
    · intro _; exact .inl rfl

theorem Geq.trans {x y z : Nat} (h1 : Geq x y) (h2 : Geq y z) : Geq x z := by
  unfold Geq at *
  rcases read_cases x with ⟨s, r, m, i, hr, e, hi, hv⟩ | ⟨s, e⟩ | hn
  · rcases read_cases y with ⟨s', r', m', i', hr', e', hi', hv'⟩ | ⟨s', e'⟩ | hn'
    · rcases read_cases z with ⟨s2, r2, m2, i2, hr2, e2, hi2, hv2⟩ | ⟨s2, e2⟩ | hn2
      · rw [order_number e e' hi hi', cmp_geq] at h1
        rw [order_number e' e2 hi' hi2, cmp_geq] at h2
        rw [order_number e e2 hi hi2, cmp_geq]; omega
      · unfold Format.order at *; rw [e', e2] at h2; rw [e, e2]; exact h2
      · rw [order_none y hn2] at h2; rcases h2 with h | h <;> cases h
    · unfold Format.order at h1; rw [e, e'] at h1
      cases s'
      · simp only [Datum.order] at h1; rcases h1 with h | h <;> cases h
      · rcases read_cases z with ⟨s2, r2, m2, i2, hr2, e2, hi2, hv2⟩ | ⟨s2, e2⟩ | hn2
        · unfold Format.order at h2; rw [e', e2] at h2; simp only [Datum.order] at h2; rcases h2 with h | h <;> cases h
        · cases s2
          · unfold Format.order at h2; rw [e', e2] at h2; simp only [Datum.order] at h2; rcases h2 with h | h <;> simp [compare, compareOfLessAndEq] at h
          · unfold Format.order; rw [e, e2]; exact .inl rfl
        · rw [order_none y hn2] at h2; rcases h2 with h | h <;> cases h
    · rw [order_none x hn'] at h1; rcases h1 with h | h <;> cases h
  · cases s
    · rcases read_cases z with ⟨s2, r2, m2, i2, hr2, e2, hi2, hv2⟩ | ⟨s2, e2⟩ | hn2
      · unfold Format.order; rw [e, e2]; exact .inl rfl
      · unfold Format.order; rw [e, e2]
        cases s2
        · exact .inr rfl
        · exact .inl rfl
      · rw [order_none y hn2] at h2; rcases h2 with h | h <;> cases h
    · rcases read_cases y with ⟨s', r', m', i', hr', e', hi', hv'⟩ | ⟨s', e'⟩ | hn'
      · unfold Format.order at h1; rw [e, e'] at h1; simp only [Datum.order] at h1; rcases h1 with h | h <;> cases h
      · cases s'
        · unfold Format.order at h1; rw [e, e'] at h1; simp only [Datum.order] at h1; rcases h1 with h | h <;> simp [compare, compareOfLessAndEq] at h
        · unfold Format.order at *; rw [e]; rw [e'] at h2; exact h2
      · rw [order_none x hn'] at h1; rcases h1 with h | h <;> cases h
  · rw [order_ab x y, ab_none hn] at h1; rcases h1 with h | h <;> cases h
end Go.Proofs.Ytkakhjaaakophaa.Fl
