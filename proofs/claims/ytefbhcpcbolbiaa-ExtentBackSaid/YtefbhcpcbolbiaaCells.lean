/- Rows of extents that a call owns: their cells. -/
import Derived.Test.YtefbhcpcbolbiaaFew
namespace Go.Proofs.Ytefbhcpcbolbiaa
open Go.RowKit

def cell3 (x : E) : List Value := [.int .i64 x.f, .int .i64 x.l, .int .i64 x.p]
def cellsE (xs : List E) : List Value := xs.flatMap cell3

theorem cellsE_len (xs : List E) : (cellsE xs).length = xs.length * 3 := by
  induction xs with
  | nil => rfl
  | cons x t ih => unfold cellsE at *; rw [List.flatMap_cons, List.length_append, ih]; simp [cell3]; omega
theorem cellsE_append (xs ys : List E) : cellsE (xs ++ ys) = cellsE xs ++ cellsE ys := by unfold cellsE; rw [List.flatMap_append]
theorem cellsE_at (xs : List E) : ∀ (i : Nat) (x : E), xs[i]? = some x → (cellsE xs)[i * 3]? = some (.int .i64 x.f) ∧ (cellsE xs)[i * 3 + 1]? = some (.int .i64 x.l) ∧ (cellsE xs)[i * 3 + 2]? = some (.int .i64 x.p) := by
  induction xs with
  | nil => intro i x h; simp at h
  | cons y t ih =>
    intro i x h
    have e : cellsE (y :: t) = cell3 y ++ cellsE t := by unfold cellsE; rw [List.flatMap_cons]
    rw [e]
    cases i with
    | zero => simp at h; subst h; simp [cell3]
    | succ i =>
      obtain ⟨h0, h1, h2⟩ := ih i x (by simpa using h)
      have l3 : (cell3 y).length = 3 := rfl
      rw [List.getElem?_append_right (by omega), List.getElem?_append_right (by omega), List.getElem?_append_right (by omega), l3,
        show (i + 1) * 3 - 3 = i * 3 by omega, show (i + 1) * 3 + 1 - 3 = i * 3 + 1 by omega, show (i + 1) * 3 + 2 - 3 = i * 3 + 2 by omega]
      exact ⟨h0, h1, h2⟩
theorem cellsE_set (xs : List E) : ∀ (i : Nat) (x : E) (l : Int), xs[i]? = some x → (cellsE xs).set (i * 3 + 1) (.int .i64 l) = cellsE (xs.set i { x with l := l }) := by
  induction xs with
  | nil => intro i x l h; simp at h
  | cons y t ih =>
    intro i x l h
    have e : ∀ (y : E) (t : List E), cellsE (y :: t) = cell3 y ++ cellsE t := fun y t => by unfold cellsE; rw [List.flatMap_cons]
    cases i with
    | zero => simp at h; subst h; rw [List.set_cons_zero, e, e]; simp [cell3]
    | succ i =>
      have := ih i x l (by simpa using h)
      have l3 : (cell3 y).length = 3 := rfl
      rw [List.set_cons_succ, e, e, List.set_append_right _ _ (by omega), l3, show (i + 1) * 3 + 1 - 3 = i * 3 + 1 by omega, this]

/-- A row of the call's own reads as these extents. -/
theorem exts_of_row {w : World} {base n c : Nat} {X : Option Addr} {xs : List E} (h : w.ownsRow base 29 3 (.slice X n c) n (cellsE xs)) : Exts w X n xs := by
  have hl := h.1
  rw [cellsE_len] at hl
  have hl : xs.length = n := by omega
  refine ⟨hl, ?_⟩
  rcases h.2 with ⟨_, h0⟩ | ⟨g, cap, cur, e, _⟩
  · left; exact List.length_eq_zero_iff.1 (by omega)
  · cases e
    right
    refine ⟨g, 0, rfl, (h.lt g rfl).2, fun i hi => ?_⟩
    obtain ⟨h0, h1, h2⟩ := cellsE_at xs i xs[i] (List.getElem?_eq_getElem hi)
    rw [Nat.zero_add, h.cellAt _ (by omega), h.cellAt _ (by omega), h.cellAt _ (by omega)]
    exact ⟨h0, h1, h2⟩
end Go.Proofs.Ytefbhcpcbolbiaa
