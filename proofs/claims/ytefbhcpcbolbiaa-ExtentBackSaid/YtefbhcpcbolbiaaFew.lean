/- Slices of extents, as they are read; whether they are few. -/
import Derived.Test.YtefbhcpcbolbiaaBase
namespace Go.Proofs.Ytefbhcpcbolbiaa
open Go.RowKit

/-- A slice reads as these extents. -/
def Exts (w : World) (A : Option Addr) (n : Nat) (xs : List E) : Prop :=
  xs.length = n ∧ (xs = [] ∨ ∃ b off, A = some ⟨b, off, none⟩ ∧ b < w.heap.size ∧ ∀ i, (h : i < xs.length) → w.cell? ⟨b, off + i * 3, none⟩ = some (.int .i64 xs[i].f) ∧ w.cell? ⟨b, off + i * 3 + 1, none⟩ = some (.int .i64 xs[i].l) ∧ w.cell? ⟨b, off + i * 3 + 2, none⟩ = some (.int .i64 xs[i].p))

theorem Exts.below {w w' : World} {A : Option Addr} {n : Nat} {xs : List E} (h : Exts w A n xs) (hb : Below w.heap.size w w') : Exts w' A n xs := by
  refine ⟨h.1, ?_⟩
  rcases h.2 with h | ⟨b, off, rfl, hl, hc⟩
  · exact .inl h
  · exact .inr ⟨b, off, rfl, Nat.lt_of_lt_of_le hl hb.size, fun i hi => ⟨(hb.cell hl).trans (hc i hi).1, (hb.cell hl).trans (hc i hi).2.1, (hb.cell hl).trans (hc i hi).2.2⟩⟩

/-- The i-th one's cells. -/
theorem Exts.at {w : World} {A : Option Addr} {n : Nat} {xs : List E} (h : Exts w A n xs) {i : Nat} (hi : i < n) :
    ∃ b off, A = some ⟨b, off, none⟩ ∧ b < w.heap.size ∧ ∃ x, xs[i]? = some x ∧ w.cell? ⟨b, off + i * 3, none⟩ = some (.int .i64 x.f) ∧ w.cell? ⟨b, off + i * 3 + 1, none⟩ = some (.int .i64 x.l) ∧ w.cell? ⟨b, off + i * 3 + 2, none⟩ = some (.int .i64 x.p) := by
  have hx : i < xs.length := by rw [h.1]; exact hi
  rcases h.2 with h2 | ⟨b, off, rfl, hl, hc⟩
  · subst h2; simp at hx
  · exact ⟨b, off, rfl, hl, xs[i], List.getElem?_eq_getElem hx, hc i hx⟩

theorem take_snoc {α : Type} {xs : List α} {j : Nat} {x : α} (hx : xs[j]? = some x) : xs.take (j + 1) = xs.take j ++ [x] := by
  obtain ⟨h, rfl⟩ := List.getElem?_eq_some_iff.1 hx
  exact List.take_succ_eq_append_getElem h

def fewB (xs : List E) : Bool := xs.all (fun x => decide (x.l ≤ 200)) && decide (xs.length ≤ 30)

set_option maxHeartbeats 800000 in
theorem few_any {A : Option Addr} {n : Nat} {xs : List E} {w : World} (cap : Nat) (h : Exts w A n xs) (hm : n ≤ maxLen) : Calls Try.prog 7 #[.slice A n cap] w fun e w' => e = .returned (.bool (fewB xs)) ∧ Below w.heap.size w w' := by
  unfold maxLen at hm
  have H := Lib.hid h
  have hl : xs.length = n := h.1
  clear h
  go_enter Try.func7, Try.ntmps7
  go_wp2
  go_loopw [7] (fun i wr => ∃ j : Nat, j ≤ n ∧ i = .int .i64 j ∧ (xs.take j).all (fun x => decide (x.l ≤ 200)) = true ∧ Below w.heap.size w wr) (fun i _ => n - (intOf i).toNat)
  case atStart => exact ⟨0, Nat.zero_le _, rfl, rfl, Below.refl _ _⟩
  case round =>
    obtain ⟨j, hj, rfl, hall, hb⟩ := hrel
    by_cases hlt : j < n
    · obtain ⟨b, off, rfl, hbl, x, hx, c0, c1, c2⟩ := (H.out.below hb).at hlt
      have Hall := Lib.hid hall
      clear hall
      by_cases hx2 : 200 < x.l
      · go_wp2
        go_ret
        refine ⟨?_, hb.alloc hb.size _⟩
        have : fewB xs = false := by
          unfold fewB
          have : xs.all (fun x => decide (x.l ≤ 200)) = false := by
            rw [List.all_eq_false]
            exact ⟨x, List.mem_of_getElem? hx, by simp; omega⟩
          rw [this]; rfl
        rw [this]; rfl
      · go_wp2
        go_roundw
        case rel => exact ⟨j + 1, by omega, by go_num, by rw [take_snoc hx, List.all_append, Hall.out]; simp; omega, hb.alloc hb.size _⟩
        case measure => simp [intOf]; omega
    · have e : j = n := by omega
      have et : xs.take j = xs := List.take_of_length_le (by omega)
      rw [et] at hall
      have hge : ¬ (j : Int) < (n : Int) := by omega
      have hfew : fewB xs = decide ((n : Int) ≤ 30) := by unfold fewB; rw [hall, hl]; simp; omega
      clear e et hlt hj hall
      go_wp2
      go_ret
      exact ⟨rfl, hb⟩
end Go.Proofs.Ytefbhcpcbolbiaa
