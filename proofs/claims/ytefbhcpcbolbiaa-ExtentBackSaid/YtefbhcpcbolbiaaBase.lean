/- Extents: what they are in Lean, and the contracts of the smallest functions. -/
import Derived.Test.YtefbhcpcbolbiaaChecked
import Derived.Test.YtefbhcpcbolbiaaRows
import Derived.WalkKit
import Derived.ProofKit
import Derived.Below
import Derived.Lib.Hide
import Derived.Deep.DeepCutAuto
import Derived.Laws.OwnMore
import Derived.Deep.RegionHeld3
namespace Go.Proofs.Ytefbhcpcbolbiaa
open Go.RowKit

/-- An extent. -/
structure E where
  f : Int
  l : Int
  p : Int
deriving DecidableEq

def ev (x : E) : Value := .agg #[.int .i64 x.f, .int .i64 x.l, .int .i64 x.p]
def oneB (x : E) : Bool := decide (0 ≤ x.f) && decide (x.f ≤ 1048576) && decide (1 ≤ x.l) && decide (x.l ≤ 1048576) && decide (1 ≤ x.p) && decide (x.p ≤ 1048576) && decide (x.f + x.l ≤ 1048576) && decide (x.p + x.l ≤ 1048576)
def joinsB (a b : E) : Bool := wrap64 (a.f + a.l) == b.f && wrap64 (a.p + a.l) == b.p

set_option maxHeartbeats 800000 in
theorem joins_any (a b : E) (w : World) : Calls Try.prog 23 #[ev a, ev b] w fun e w' => e = .returned (.bool (joinsB a b)) ∧ Below w.heap.size w w' := by
  unfold ev joinsB
  go_enter Try.func23, Try.ntmps23
  go_wp2
  all_goals go_ret
  all_goals exact ⟨by simp [*], ((Below.refl _ _).alloc (Nat.le_refl _) _).alloc (by simp) _⟩

set_option maxHeartbeats 1600000 in
theorem one_any (x : E) (w : World) : Calls Try.prog 22 #[ev x] w fun e w' => e = .returned (.bool (oneB x)) ∧ Below w.heap.size w w' := by
  unfold ev
  by_cases h1 : 0 ≤ x.f ∧ x.f ≤ 1048576 ∧ 1 ≤ x.l ∧ x.l ≤ 1048576 ∧ 1 ≤ x.p ∧ x.p ≤ 1048576
  · obtain ⟨a1, a2, a3, a4, a5, a6⟩ := h1
    have s1 : wrap64 (x.f + x.l) = x.f + x.l := by unfold wrap64; omega
    have s2 : wrap64 (x.p + x.l) = x.p + x.l := by unfold wrap64; omega
    have e : oneB x = (decide (x.f + x.l ≤ 1048576) && decide (x.p + x.l ≤ 1048576)) := by unfold oneB; simp [*]
    rw [e]
    clear e
    go_enter Try.func22, Try.ntmps22
    go_wp2
    all_goals go_ret
    all_goals exact ⟨by simp [*] <;> omega, (Below.refl _ _).alloc (Nat.le_refl _) _⟩
  · have e : oneB x = false := by unfold oneB; simp; omega
    rw [e]
    clear e
    go_enter Try.func22, Try.ntmps22
    go_wp2
    all_goals go_ret
    all_goals exact ⟨by simp <;> omega, (Below.refl _ _).alloc (Nat.le_refl _) _⟩
end Go.Proofs.Ytefbhcpcbolbiaa
