/- The law GeomRoots of package sumplaw06: each root is one epoch's and one bank's. No condition beyond the given statement's own. -/
import Derived.Test.YtkakhjaaakophaaGeom
namespace Go.Proofs.Ytkakhjaaakophaa
open Go.RowKit

theorem root_bank (e k : Int) (w : World) (h0 : 0 ≤ e) (h1 : e ≤ 1099511627776) (hk0 : 0 ≤ k) (hk1 : k ≤ 1) :
    Calls Try.prog 16 #[.int .i64 e, .int .i64 k] w fun en w' => en = .returned (.int .u64 (2 * e + k)) ∧ w = w' := by
  by_cases hk : k = 1
  · subst hk; exact root_one e w h0 h1
  · obtain rfl : k = 0 := by omega
    have := root_not e 0 w h0 h1 (by decide)
    rw [Int.add_zero]; exact this

theorem epoch_bank (e k : Int) (w : World) (h0 : 0 ≤ e) (h1 : e ≤ 1099511627776) (hk0 : 0 ≤ k) (hk1 : k ≤ 1) :
    Calls Try.prog 15 #[.int .u64 (2 * e + k)] w fun en w' => en = .returned (.tuple #[.int .i64 e, .int .i64 k, .bool true]) ∧ w = w' := by
  have h := epoch_yes (2 * e + k) w (by omega) (by omega) (by omega)
  rw [show (2 * e + k) / 2 = e from by omega, show (2 * e + k) % 2 = k from by omega] at h
  exact h

set_option maxHeartbeats 400000 in
set_option maxRecDepth 100000 in
theorem roots_off (a b c d : Int) (w : World) (h : a < 0 ∨ 1099511627776 < a ∨ c < 0 ∨ 1099511627776 < c ∨ b < 0 ∨ 1 < b ∨ d < 0 ∨ 1 < d) :
    Calls Try.prog 4 #[.int .i64 a, .int .i64 b, .int .i64 c, .int .i64 d] w fun e w' => e = .returned (.bool true) ∧ Below w.heap.size w w' := by
  have key : a < 0 ∨ (¬ a < 0 ∧ 1099511627776 < a) ∨ (¬ a < 0 ∧ ¬ 1099511627776 < a ∧ c < 0) ∨ (¬ a < 0 ∧ ¬ 1099511627776 < a ∧ ¬ c < 0 ∧ 1099511627776 < c) ∨ (¬ a < 0 ∧ ¬ 1099511627776 < a ∧ ¬ c < 0 ∧ ¬ 1099511627776 < c ∧ b < 0) ∨ (¬ a < 0 ∧ ¬ 1099511627776 < a ∧ ¬ c < 0 ∧ ¬ 1099511627776 < c ∧ ¬ b < 0 ∧ 1 < b) ∨ (¬ a < 0 ∧ ¬ 1099511627776 < a ∧ ¬ c < 0 ∧ ¬ 1099511627776 < c ∧ ¬ b < 0 ∧ ¬ 1 < b ∧ d < 0) ∨ (¬ a < 0 ∧ ¬ 1099511627776 < a ∧ ¬ c < 0 ∧ ¬ 1099511627776 < c ∧ ¬ b < 0 ∧ ¬ 1 < b ∧ ¬ d < 0 ∧ 1 < d) := by omega
  clear h
  rcases key with h1 | ⟨h1, h2⟩ | ⟨h1, h2, h3⟩ | ⟨h1, h2, h3, h4⟩ | ⟨h1, h2, h3, h4, h5⟩ | ⟨h1, h2, h3, h4, h5, h6⟩ | ⟨h1, h2, h3, h4, h5, h6, h7⟩ | ⟨h1, h2, h3, h4, h5, h6, h7, h8⟩
  all_goals
    go_enter Try.func4, Try.ntmps4
    go_wp2_with (go_at_call 14; refine (awake6 _).mono ?_; rintro e w' ⟨rfl, hb⟩)
    go_ret
    exact ⟨rfl, hb⟩

set_option maxHeartbeats 800000 in
set_option maxRecDepth 100000 in
theorem roots_in (a b c d : Int) (w : World) (a0 : 0 ≤ a) (a1 : a ≤ 1099511627776) (c0 : 0 ≤ c) (c1 : c ≤ 1099511627776) (b0 : 0 ≤ b) (b1 : b ≤ 1) (d0 : 0 ≤ d) (d1 : d ≤ 1) :
    Calls Try.prog 4 #[.int .i64 a, .int .i64 b, .int .i64 c, .int .i64 d] w fun e w' => e = .returned (.bool true) ∧ Below w.heap.size w w' := by
  by_cases hac : a = c
  · subst hac
    by_cases hbd : b = d
    · subst hbd
      go_enter Try.func4, Try.ntmps4
      go_wp2_with (first | (go_at_call 14; refine (awake6 _).mono ?_; rintro e w' ⟨rfl, hb⟩) | (go_at_call 16; refine (root_bank _ _ _ a0 a1 b0 b1).mono ?_; rintro e w' ⟨rfl, rfl⟩) | (go_at_call 15; refine (epoch_bank _ _ _ a0 a1 b0 b1).mono ?_; rintro e w' ⟨rfl, rfl⟩))
      go_ret
      exact ⟨rfl, hb⟩
    · have e1 : (2 * a + b == 2 * a + d) = false := by rw [beq_eq_false_iff_ne]; omega
      have e2 : (b == d) = false := by rw [beq_eq_false_iff_ne]; exact hbd
      clear hbd
      go_enter Try.func4, Try.ntmps4
      go_wp2_with (first | (go_at_call 14; refine (awake6 _).mono ?_; rintro e w' ⟨rfl, hb⟩) | (go_at_call 16; first | ((with_reducible refine (root_bank a b _ a0 a1 b0 b1).mono ?_); rintro e w' ⟨rfl, rfl⟩) | ((with_reducible refine (root_bank a d _ a0 a1 d0 d1).mono ?_); rintro e w' ⟨rfl, rfl⟩)) | (go_at_call 15; refine (epoch_bank _ _ _ a0 a1 b0 b1).mono ?_; rintro e w' ⟨rfl, rfl⟩))
      go_ret
      exact ⟨rfl, hb⟩
  · have e1 : (2 * a + b == 2 * c + d) = false := by rw [beq_eq_false_iff_ne]; omega
    have e2 : (a == c) = false := by rw [beq_eq_false_iff_ne]; exact hac
    clear hac
    go_enter Try.func4, Try.ntmps4
    go_wp2_with (first | (go_at_call 14; refine (awake6 _).mono ?_; rintro e w' ⟨rfl, hb⟩) | (go_at_call 16; first | ((with_reducible refine (root_bank a b _ a0 a1 b0 b1).mono ?_); rintro e w' ⟨rfl, rfl⟩) | ((with_reducible refine (root_bank c d _ c0 c1 d0 d1).mono ?_); rintro e w' ⟨rfl, rfl⟩)) | (go_at_call 15; refine (epoch_bank _ _ _ a0 a1 b0 b1).mono ?_; rintro e w' ⟨rfl, rfl⟩))
    go_ret
    exact ⟨rfl, hb⟩

theorem roots_any (a b c d : Int) (w : World) (_ : (Lit.int .i64 a).wf = true) (_ : (Lit.int .i64 b).wf = true) (_ : (Lit.int .i64 c).wf = true) (_ : (Lit.int .i64 d).wf = true) :
    Calls Try.prog 4 #[.int .i64 a, .int .i64 b, .int .i64 c, .int .i64 d] w fun e w' => e = .returned (.bool true) ∧ Below w.heap.size w w' := by
  by_cases h : a < 0 ∨ 1099511627776 < a ∨ c < 0 ∨ 1099511627776 < c ∨ b < 0 ∨ 1 < b ∨ d < 0 ∨ 1 < d
  · exact roots_off a b c d w h
  · exact roots_in a b c d w (by omega) (by omega) (by omega) (by omega) (by omega) (by omega) (by omega) (by omega)
end Go.Proofs.Ytkakhjaaakophaa
