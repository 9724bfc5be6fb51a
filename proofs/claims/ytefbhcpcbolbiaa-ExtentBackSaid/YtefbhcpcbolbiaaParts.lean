/- The parts of an extent below a place, and from it on. -/
import Derived.Test.YtefbhcpcbolbiaaBase
namespace Go.Proofs.Ytefbhcpcbolbiaa
open Go.RowKit

def belowE (x : E) (n : Int) : E := { x with l := min x.l (wrap64 (n - x.f)) }
def aboveE (x : E) (n : Int) : E := if 0 < wrap64 (n - x.f) then ⟨wrap64 (x.f + wrap64 (n - x.f)), wrap64 (x.l - wrap64 (n - x.f)), wrap64 (x.p + wrap64 (n - x.f))⟩ else x

set_option maxHeartbeats 1600000 in
theorem below_any (x : E) (n : Int) (w : World) : Calls Try.prog 26 #[ev x, .int .i64 n] w fun e w' => e = .returned (ev (belowE x n)) ∧ Below w.heap.size w w' := by
  unfold ev belowE
  go_enter Try.func26, Try.ntmps26
  go_wp2
  · rw [Int.min_eq_right (by omega)]
    exact bodyPost_ret (v := .agg #[.int .i64 x.f, .int .i64 (wrap64 (n - x.f)), .int .i64 x.p]) (by simp [results, Try.results26, go_sem]) rfl ⟨rfl, ((Below.refl _ _).alloc (Nat.le_refl _) _).alloc (by simp) _⟩
  · rw [Int.min_eq_left (by omega)]
    exact bodyPost_ret (v := .agg #[.int .i64 x.f, .int .i64 x.l, .int .i64 x.p]) (by simp [results, Try.results26, go_sem]) rfl ⟨rfl, ((Below.refl _ _).alloc (Nat.le_refl _) _).alloc (by simp) _⟩

set_option maxHeartbeats 1600000 in
theorem above_any (x : E) (n : Int) (w : World) : Calls Try.prog 25 #[ev x, .int .i64 n] w fun e w' => e = .returned (ev (aboveE x n)) ∧ Below w.heap.size w w' := by
  by_cases h : 0 < wrap64 (n - x.f)
  · have e : aboveE x n = ⟨wrap64 (x.f + wrap64 (n - x.f)), wrap64 (x.l - wrap64 (n - x.f)), wrap64 (x.p + wrap64 (n - x.f))⟩ := if_pos h
    rw [e]
    clear e
    unfold ev
    go_enter Try.func25, Try.ntmps25
    go_wp2
    exact bodyPost_ret (v := .agg #[.int .i64 (wrap64 (x.f + wrap64 (n - x.f))), .int .i64 (wrap64 (x.l - wrap64 (n - x.f))), .int .i64 (wrap64 (x.p + wrap64 (n - x.f)))]) (by simp [results, Try.results25, go_sem]) rfl ⟨rfl, ((Below.refl _ _).alloc (Nat.le_refl _) _).alloc (by simp) _⟩
  · have e : aboveE x n = x := if_neg h
    rw [e]
    clear e
    unfold ev
    go_enter Try.func25, Try.ntmps25
    go_wp2
    exact bodyPost_ret (v := .agg #[.int .i64 x.f, .int .i64 x.l, .int .i64 x.p]) (by simp [results, Try.results25, go_sem]) rfl ⟨rfl, ((Below.refl _ _).alloc (Nat.le_refl _) _).alloc (by simp) _⟩
end Go.Proofs.Ytefbhcpcbolbiaa
