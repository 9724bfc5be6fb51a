/- The law GeomApart of package sumplaw06: the first page, both banks and the pages of data have no word in common. The walk. -/
import Derived.Test.YtkakhjaaakophaaGeom
namespace Go.Proofs.Ytkakhjaaakophaa
open Go.RowKit

theorem logat_0 (p b i l d : Int) (w : World) (h0 : 0 ≤ b) (h1 : b ≤ 131072) (i0 : 0 ≤ i) (i1 : i ≤ 5000000) :
    Calls Try.prog 20 #[gv p b i l d, .int .i64 0] w fun e w' => e = .returned (.int .i64 (34 + i)) ∧ Below w.heap.size w w' := by
  have h := logat_any p b i l d 0 w h0 h1 i0 i1
  rw [show bankAt b 0 = 32 from rfl, show (32 : Int) + 2 + i = 34 + i from by omega] at h
  exact h
theorem logat_1 (p b i l d : Int) (w : World) (h0 : 0 ≤ b) (h1 : b ≤ 131072) (i0 : 0 ≤ i) (i1 : i ≤ 5000000) :
    Calls Try.prog 20 #[gv p b i l d, .int .i64 1] w fun e w' => e = .returned (.int .i64 (32 * (1 + b) + 2 + i)) ∧ Below w.heap.size w w' := logat_any p b i l d 1 w h0 h1 i0 i1
theorem imageat_0 (p b i l d : Int) (w : World) (h0 : 0 ≤ b) (h1 : b ≤ 131072) :
    Calls Try.prog 21 #[gv p b i l d, .int .i64 0] w fun e w' => e = .returned (.int .i64 34) ∧ Below w.heap.size w w' := imageat_any p b i l d 0 w h0 h1

theorem below_after {w a b : World} (h : Below w.heap.size w a) (k : Below a.heap.size a b) : Below w.heap.size w b := h.trans (k.mono h.size)

set_option maxHeartbeats 3200000 in
set_option maxRecDepth 100000 in
theorem apart_in (n p q b i l d : Int) (w : World) (Hof : ∀ w, Calls Try.prog 17 #[.int .i64 n] w fun e w' => e = .returned (.tuple #[gv n b i l d, .bool true]) ∧ Below w.heap.size w w')
    (n0 : 64 ≤ n) (n1 : n ≤ 1048576) (b0 : 8 ≤ b) (b1 : b ≤ 131072) (hil : i + l = 32 * b - 2) (i0 : 20 ≤ i) (l0 : 17 ≤ l) (d1 : d ≤ n - 1 - 2 * b) (d1' : n - 1 - 2 * b ≤ d)
    (p0 : 1 ≤ p) (p1 : p ≤ d) (q0 : 1 ≤ q) (q1 : q ≤ d) :
    Calls Try.prog 5 #[.int .i64 n, .int .i64 p, .int .i64 q] w fun e w' => e = .returned (.bool true) ∧ Below w.heap.size w w' := by
  have Hof := Lib.hid Hof
  have C18a := Lib.hid (fun w => bankat_not n b i l d 0 w (by decide))
  have C18b := Lib.hid (fun w => bankat_one n b i l d w (by omega) (by omega))
  have C19 := Lib.hid (fun w q (h0 : 1 ≤ q) (h1 : q ≤ d) => pageat_in n b i l d q w (by omega) (by omega) (by omega) (by omega) (by omega))
  have C20a := Lib.hid (fun w => logat_0 n b i l d w (by omega) (by omega) (by omega) (by omega))
  have C20b := Lib.hid (fun w => logat_1 n b i l d w (by omega) (by omega) (by omega) (by omega))
  have C21 := Lib.hid (fun w => imageat_0 n b i l d w (by omega) (by omega))
  have C22 := Lib.hid (fun w => words_any n b i l d w (by omega) (by omega))
  unfold gv at Hof C18a C18b C19 C20a C20b C21 C22
  have g1 : decide (32 * (1 + b) < 34 + i + l) = false := decide_eq_false (by omega)
  have g2 : decide (32 * (2 * b + 1) < 32 * (1 + b) + 2 + i + l) = false := decide_eq_false (by omega)
  have g3 : decide (n * 32 < 32 * (2 * b + p) + 32) = false := decide_eq_false (by omega)
  have g4 : decide (l < 17) = false := decide_eq_false (by omega)
  have g5 : decide (i < 20) = false := decide_eq_false (by omega)
  have z1 : IntKind.i64.wrap (34 + i + l) = 34 + i + l := IntWalk.i64_in _ (by omega)
  have z2 : IntKind.i64.wrap (34 + i) = 34 + i := IntWalk.i64_in _ (by omega)
  have z3 : IntKind.i64.wrap (32 * (1 + b) + 2 + i + l) = 32 * (1 + b) + 2 + i + l := IntWalk.i64_in _ (by omega)
  have z4 : IntKind.i64.wrap (32 * (2 * b + p) + 32) = 32 * (2 * b + p) + 32 := IntWalk.i64_in _ (by omega)
  have x1 : 32 * (2 * b + p) ≤ 100000000 := by omega
  have x2 : 0 ≤ 32 * (2 * b + p) := by omega
  have x3 : 32 * (2 * b + q) ≤ 100000000 := by omega
  have x4 : 0 ≤ 32 * (2 * b + q) := by omega
  have hpq : (p = q) ∨ ((p == q) = false ∧ p < q ∧ 32 * (2 * b + p) + 32 ≤ 32 * (2 * b + q)) ∨ ((p == q) = false ∧ q < p ∧ 32 * (2 * b + q) + 32 ≤ 32 * (2 * b + p)) := by
    rcases Int.lt_trichotomy p q with h | h | h
    · exact .inr (.inl ⟨by rw [beq_eq_false_iff_ne]; omega, h, by omega⟩)
    · exact .inl h
    · exact .inr (.inr ⟨by rw [beq_eq_false_iff_ne]; omega, h, by omega⟩)
  go_enter Try.func5, Try.ntmps5
  go_wp2_with (first | (go_at_call 14; refine (awake6 _).mono ?_; rintro e w0 ⟨rfl, hb0⟩) | (go_at_call 17; refine (Hof.out _).mono ?_; rintro e w1 ⟨rfl, hb1⟩))
  have hB : Below w.heap.size w w1 := hb0.trans (hb1.mono hb0.size)
  go_region_held3 (fun w' => w'.cell? ⟨w1.heap.size, 0, none⟩ = some (.int .i64 n) ∧ w'.cell? ⟨w1.heap.size, 1, none⟩ = some (.int .i64 b) ∧ w'.cell? ⟨w1.heap.size, 2, none⟩ = some (.int .i64 i) ∧ w'.cell? ⟨w1.heap.size, 3, none⟩ = some (.int .i64 l) ∧ w'.cell? ⟨w1.heap.size, 4, none⟩ = some (.int .i64 d) ∧ w1.heap.size < w'.heap.size ∧ Below w.heap.size w w')
    (first | (refine ⟨?_, ?_, ?_, ?_, ?_, ?_, ?_⟩ <;> first | exact (hB.alloc hB.size _).drew | go_keep) | (go_split_ands; refine ⟨?_, ?_, ?_, ?_, ?_, ?_, ?_⟩ <;> first | exact below_after (by assumption) hb2 | exact Nat.lt_of_lt_of_le (by assumption) hb2.size | (rw [hb2.cell (by assumption)]; assumption)))
    ((first | (go_at_call 18; first | ((with_reducible refine (C18a.out _).mono ?_); rintro e w' ⟨rfl, hb2⟩) | ((with_reducible refine (C18b.out _).mono ?_); rintro e w' ⟨rfl, hb2⟩)) | (go_at_call 19; first | ((with_reducible refine (C19.out _ p p0 p1).mono ?_); rintro e w' ⟨rfl, hb2⟩) | ((with_reducible refine (C19.out _ q q0 q1).mono ?_); rintro e w' ⟨rfl, hb2⟩))))
  have HS : w'.cell? ⟨w1.heap.size, 0, none⟩ = some (.int .i64 n) ∧ w'.cell? ⟨w1.heap.size, 1, none⟩ = some (.int .i64 b) ∧ w'.cell? ⟨w1.heap.size, 2, none⟩ = some (.int .i64 i) ∧ w'.cell? ⟨w1.heap.size, 3, none⟩ = some (.int .i64 l) ∧ w'.cell? ⟨w1.heap.size, 4, none⟩ = some (.int .i64 d) ∧ w1.heap.size < w'.heap.size ∧ Below w.heap.size w w' := by assumption
  obtain ⟨c0, c1, c2, c3, c4, c5, c6⟩ := HS
  go_wp2_with fail
  go_region_held3 (fun w' => w'.cell? ⟨w1.heap.size, 0, none⟩ = some (.int .i64 n) ∧ w'.cell? ⟨w1.heap.size, 1, none⟩ = some (.int .i64 b) ∧ w'.cell? ⟨w1.heap.size, 2, none⟩ = some (.int .i64 i) ∧ w'.cell? ⟨w1.heap.size, 3, none⟩ = some (.int .i64 l) ∧ w'.cell? ⟨w1.heap.size, 4, none⟩ = some (.int .i64 d) ∧ w1.heap.size < w'.heap.size ∧ Below w.heap.size w w')
    (first | (refine ⟨?_, ?_, ?_, ?_, ?_, ?_, ?_⟩ <;> first | exact c6.drew | go_keep) | (go_split_ands; refine ⟨?_, ?_, ?_, ?_, ?_, ?_, ?_⟩ <;> first | exact below_after (by assumption) hb2 | exact Nat.lt_of_lt_of_le (by assumption) hb2.size | (rw [hb2.cell (by assumption)]; assumption)))
    ((first | (go_at_call 20; first | ((with_reducible refine (C20a.out _).mono ?_); rintro e w' ⟨rfl, hb2⟩) | ((with_reducible refine (C20b.out _).mono ?_); rintro e w' ⟨rfl, hb2⟩)) | (go_at_call 19; refine (C19.out _ 1 (by omega) (by omega)).mono ?_; rintro e w' ⟨rfl, hb2⟩) | (go_at_call 21; refine (C21.out _).mono ?_; rintro e w' ⟨rfl, hb2⟩) | (go_at_call 22; refine (C22.out _).mono ?_; rintro e w' ⟨rfl, hb2⟩)))
  have HS : w'.cell? ⟨w1.heap.size, 0, none⟩ = some (.int .i64 n) ∧ w'.cell? ⟨w1.heap.size, 1, none⟩ = some (.int .i64 b) ∧ w'.cell? ⟨w1.heap.size, 2, none⟩ = some (.int .i64 i) ∧ w'.cell? ⟨w1.heap.size, 3, none⟩ = some (.int .i64 l) ∧ w'.cell? ⟨w1.heap.size, 4, none⟩ = some (.int .i64 d) ∧ w1.heap.size < w'.heap.size ∧ Below w.heap.size w w' := by assumption
  obtain ⟨_, _, _, _, _, _, k6⟩ := HS
  rcases hpq with rfl | ⟨e1, e2, e3⟩ | ⟨e1, e2, e3⟩
  · go_wp2
    go_ret
    exact ⟨by simp, k6⟩
  · go_wp2
    go_ret
    exact ⟨by simp, k6⟩
  · have e4 : ¬ p < q := by omega
    go_wp2
    go_ret
    exact ⟨by simp, k6⟩

set_option maxHeartbeats 800000 in
set_option maxRecDepth 100000 in
theorem apart_off (n p q b i l d : Int) (w : World) (Hof : ∀ w, Calls Try.prog 17 #[.int .i64 n] w fun e w' => e = .returned (.tuple #[gv n b i l d, .bool true]) ∧ Below w.heap.size w w')
    (h : p < 1 ∨ d < p ∨ q < 1 ∨ d < q) :
    Calls Try.prog 5 #[.int .i64 n, .int .i64 p, .int .i64 q] w fun e w' => e = .returned (.bool true) ∧ Below w.heap.size w w' := by
  have Hof1 := Lib.hid Hof
  clear Hof
  unfold gv at Hof1
  have key : p < 1 ∨ (¬ p < 1 ∧ d < p) ∨ (¬ p < 1 ∧ ¬ d < p ∧ q < 1) ∨ (¬ p < 1 ∧ ¬ d < p ∧ ¬ q < 1 ∧ d < q) := by omega
  clear h
  rcases key with h1 | ⟨h1, h2⟩ | ⟨h1, h2, h3⟩ | ⟨h1, h2, h3, h4⟩
  all_goals
    go_enter Try.func5, Try.ntmps5
    go_wp2_with (first | (go_at_call 14; refine (awake6 _).mono ?_; rintro e w0 ⟨rfl, hb0⟩) | (go_at_call 17; refine (Hof1.out _).mono ?_; rintro e w1 ⟨rfl, hb1⟩))
    have hB : Below w.heap.size w w1 := hb0.trans (hb1.mono hb0.size)
    go_ret
    exact ⟨rfl, hB.alloc hB.size _⟩

set_option maxHeartbeats 400000 in
set_option maxRecDepth 100000 in
theorem apart_no (n p q : Int) (w : World) (h : n < 64 ∨ 1048576 < n) :
    Calls Try.prog 5 #[.int .i64 n, .int .i64 p, .int .i64 q] w fun e w' => e = .returned (.bool true) ∧ Below w.heap.size w w' := by
  have Hof1 := Lib.hid (fun w => of_no n w h)
  clear h
  go_enter Try.func5, Try.ntmps5
  go_wp2_with (first | (go_at_call 14; refine (awake6 _).mono ?_; rintro e w0 ⟨rfl, hb0⟩) | (go_at_call 17; refine (Hof1.out _).mono ?_; rintro e w1 ⟨rfl, hb1⟩))
  have hB : Below w.heap.size w w1 := hb0.trans (hb1.mono hb0.size)
  go_ret
  exact ⟨rfl, hB.alloc hB.size _⟩

theorem apart_any (n p q : Int) (w : World) (_ : (Lit.int .i64 n).wf = true) (_ : (Lit.int .i64 p).wf = true) (_ : (Lit.int .i64 q).wf = true) :
    Calls Try.prog 5 #[.int .i64 n, .int .i64 p, .int .i64 q] w fun e w' => e = .returned (.bool true) ∧ Below w.heap.size w w' := by
  by_cases h : n < 64 ∨ 1048576 < n
  · exact apart_no n p q w h
  · have Hof := fun w => of_yes n w (by omega) (by omega)
    by_cases h2 : p < 1 ∨ n - 1 - 2 * (n / 8) < p ∨ q < 1 ∨ n - 1 - 2 * (n / 8) < q
    · exact apart_off n p q _ _ _ _ w Hof h2
    · exact apart_in n p q _ _ _ _ w Hof (by omega) (by omega) (by omega) (by omega) (by omega) (by omega) (by omega) (by omega) (by omega) (by omega) (by omega) (by omega) (by omega)
end Go.Proofs.Ytkakhjaaakophaa
