/- The extents of pages: the package's Of. -/
import Derived.Test.YtefbhcpcbolbiaaAdd
import Derived.Test.YtefbhcpcbolbiaaInts
namespace Go.Proofs.Ytefbhcpcbolbiaa
open Go.RowKit

/-- The extents of the first pages. -/
def ofN (ps : List Int) : Nat → List E
  | 0 => []
  | j + 1 => match ps[j]? with
    | none => ofN ps j
    | some p => if 0 < p then addE (ofN ps j) ⟨j, 1, p⟩ else ofN ps j
def ofL (ps : List Int) : List E := ofN ps ps.length

theorem addE_len (xs : List E) (x : E) : (addE xs x).length ≤ xs.length + 1 := by
  unfold addE
  split
  · omega
  · split
    · simp
    · split
      · rw [List.length_set]; omega
      · simp
theorem ofN_len (ps : List Int) : ∀ j, (ofN ps j).length ≤ j := by
  intro j
  induction j with
  | zero => simp [ofN]
  | succ j ih =>
    unfold ofN
    split
    · omega
    · split
      · exact Nat.le_trans (addE_len _ _) (by omega)
      · omega
theorem ofN_put {ps : List Int} {j : Nat} {p : Int} (h : ps[j]? = some p) (hp : 0 < p) : ofN ps (j + 1) = addE (ofN ps j) ⟨j, 1, p⟩ := by
  show (match ps[j]? with | none => _ | some p => _) = _
  rw [h]; exact if_pos hp
theorem ofN_none {ps : List Int} {j : Nat} {p : Int} (h : ps[j]? = some p) (hp : ¬ 0 < p) : ofN ps (j + 1) = ofN ps j := by
  show (match ps[j]? with | none => _ | some p => _) = _
  rw [h]; exact if_neg hp

set_option maxRecDepth 100000 in
set_option maxHeartbeats 4000000 in
theorem of_any {A : Option Addr} {n : Nat} {ps : List Int} {w : World} (cap : Nat) (h : Ints w A n ps) (hm : n ≤ 1000) : Calls Try.prog 12 #[.slice A n cap] w (RowOf w.heap.size (ofL ps) w) := by
  have H := Lib.hid h
  have hl : ps.length = n := h.1
  have CA := Lib.hid (add_any w.heap.size)
  unfold ev at CA
  clear h
  go_enter Try.func12, Try.ntmps12
  go_wp2
  go_loopw [3, 8] (fun v i wr => ∃ j : Nat, j ≤ n ∧ i = .int .i64 j ∧ wr.ownsRow w.heap.size 29 3 v (ofN ps j).length (cellsE (ofN ps j)) ∧ Below w.heap.size w wr) (fun _ i _ => n - (intOf i).toNat)
  case atStart => exact ⟨0, Nat.zero_le _, rfl, World.ownsRow_nil _ _ _ _, Below.refl _ _⟩
  case round =>
    obtain ⟨j, hj, rfl, hown, hb⟩ := hrel
    by_cases hlt : j < n
    · obtain ⟨b, off, rfl, hbl, p, hx, c0⟩ := (H.out.below hb).at hlt
      have Hx := Lib.hid hx
      have Hown := Lib.hid hown
      have hlen := ofN_len ps j
      clear hx hown
      by_cases hp : 0 < p
      · go_wp2_with (go_at_call 21; refine (CA.out (ofN ps j) _ ⟨j, 1, p⟩ _ Hown.out hb.size (by omega)).mono ?_; rintro e w1 ⟨v1, rfl, hown1, hb1⟩; have Hown1 := Lib.hid hown1; clear hown1)
        go_roundw
        case rel => exact ⟨j + 1, by omega, by go_num, by rw [ofN_put Hx.out hp]; exact Hown1.out, hb.trans hb1⟩
        case measure => simp [intOf]; omega
      · go_wp2
        go_roundw
        case rel => exact ⟨j + 1, by omega, by go_num, by rw [ofN_none Hx.out hp]; exact Hown.out, hb⟩
        case measure => simp [intOf]; omega
    · have e : j = n := by omega
      have hge : ¬ (j : Int) < (n : Int) := by omega
      have Hown := Lib.hid hown
      clear hlt hj hown
      go_wp2
      go_ret
      refine ⟨_, rfl, ?_, hb⟩
      unfold ofL
      rw [hl, ← e]
      exact Hown.out
end Go.Proofs.Ytefbhcpcbolbiaa
