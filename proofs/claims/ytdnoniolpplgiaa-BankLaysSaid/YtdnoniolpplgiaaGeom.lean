/- What the functions of package geom compute: contracts (seat a's texts at this dump's numbers; printed by tools/e_geom.py). -/
import Derived.Test.YtdnoniolpplgiaaLay
import Derived.Laws.StructEq
import Derived.Deep.RegionHeld3
import Derived.BigQuiet
namespace Go.Proofs.Ytdnoniolpplgiaa
open Go.RowKit

/-- A geom, as a value. -/
def gv (p b i l d : Int) : Value := .agg #[.int .i64 p, .int .i64 b, .int .i64 i, .int .i64 l, .int .i64 d]

set_option maxHeartbeats 400000 in
theorem of_no (n : Int) (w : World) (h : n < 64 ∨ 1048576 < n) :
    Calls Try.prog 65 #[.int .i64 n] w fun e w' => e = .returned (.tuple #[.agg #[.int .i64 0, .int .i64 0, .int .i64 0, .int .i64 0, .int .i64 0], .bool false]) ∧ Below w.heap.size w w' := by
  rcases h with h | h
  · go_enter Try.func65, Try.ntmps65
    go_wp2
    exact bodyPost_ret (v := .tuple #[.agg #[.int .i64 0, .int .i64 0, .int .i64 0, .int .i64 0, .int .i64 0], .bool false]) (by simp [results, Try.results65, go_sem]) rfl ⟨rfl, (Below.refl _ _).alloc (Nat.le_refl _) _⟩
  · have h' : ¬ n < 64 := by omega
    go_enter Try.func65, Try.ntmps65
    go_wp2
    exact bodyPost_ret (v := .tuple #[.agg #[.int .i64 0, .int .i64 0, .int .i64 0, .int .i64 0, .int .i64 0], .bool false]) (by simp [results, Try.results65, go_sem]) rfl ⟨rfl, (Below.refl _ _).alloc (Nat.le_refl _) _⟩

set_option maxHeartbeats 400000 in
theorem of_yes (n : Int) (w : World) (h1 : 64 ≤ n) (h2 : n ≤ 1048576) :
    Calls Try.prog 65 #[.int .i64 n] w fun e w' => e = .returned (.tuple #[.agg #[.int .i64 n, .int .i64 (n / 8), .int .i64 ((n / 8 * 32 - 2) / 2), .int .i64 ((n / 8 * 32 - 2) - (n / 8 * 32 - 2) / 2), .int .i64 (n - 1 - 2 * (n / 8))], .bool true]) ∧ Below w.heap.size w w' := by
  go_enter Try.func65, Try.ntmps65
  go_wp2
  exact bodyPost_ret (v := .tuple #[.agg #[.int .i64 n, .int .i64 (n / 8), .int .i64 ((n / 8 * 32 - 2) / 2), .int .i64 ((n / 8 * 32 - 2) - (n / 8 * 32 - 2) / 2), .int .i64 (n - 1 - 2 * (n / 8))], .bool true]) (by simp [results, Try.results65, go_sem]) rfl ⟨rfl, ((Below.refl _ _).alloc (Nat.le_refl _) _).alloc (by simp) _⟩

set_option maxHeartbeats 400000 in
theorem root_one (e : Int) (w : World) (h0 : 0 ≤ e) (h1 : e ≤ 1099511627776) :
    Calls Try.prog 78 #[.int .i64 e, .int .i64 1] w fun en w' => en = .returned (.int .u64 (2 * e + 1)) ∧ w = w' := by
  go_enter Try.func78, Try.ntmps78
  go_wp2
  go_ret
  exact ⟨rfl, rfl⟩

set_option maxHeartbeats 400000 in
theorem root_not (e k : Int) (w : World) (h0 : 0 ≤ e) (h1 : e ≤ 1099511627776) (hk : (k == 1) = false) :
    Calls Try.prog 78 #[.int .i64 e, .int .i64 k] w fun en w' => en = .returned (.int .u64 (2 * e)) ∧ w = w' := by
  go_enter Try.func78, Try.ntmps78
  go_wp2
  go_ret
  exact ⟨rfl, rfl⟩

set_option maxHeartbeats 400000 in
theorem root_off_one (e : Int) (w : World) (h0 : e < 0 ∨ 1099511627776 < e) :
    Calls Try.prog 78 #[.int .i64 e, .int .i64 1] w fun en w' => en = .returned (.int .u64 1) ∧ w = w' := by
  rcases h0 with h0 | h0
  · go_enter Try.func78, Try.ntmps78
    go_wp2
    go_ret
    exact ⟨rfl, rfl⟩
  · have h1 : ¬ e < 0 := by omega
    go_enter Try.func78, Try.ntmps78
    go_wp2
    go_ret
    exact ⟨rfl, rfl⟩

set_option maxHeartbeats 400000 in
theorem root_off_not (e k : Int) (w : World) (h0 : e < 0 ∨ 1099511627776 < e) (hk : (k == 1) = false) :
    Calls Try.prog 78 #[.int .i64 e, .int .i64 k] w fun en w' => en = .returned (.int .u64 0) ∧ w = w' := by
  rcases h0 with h0 | h0
  · go_enter Try.func78, Try.ntmps78
    go_wp2
    go_ret
    exact ⟨rfl, rfl⟩
  · have h1 : ¬ e < 0 := by omega
    go_enter Try.func78, Try.ntmps78
    go_wp2
    go_ret
    exact ⟨rfl, rfl⟩

set_option maxHeartbeats 400000 in
theorem epoch_yes (r : Int) (w : World) (h0 : 0 ≤ r) (h1 : r < 18446744073709551616) (h2 : r / 2 ≤ 1099511627776) :
    Calls Try.prog 77 #[.int .u64 r] w fun en w' => en = .returned (.tuple #[.int .i64 (r / 2), .int .i64 (r % 2), .bool true]) ∧ w = w' := by
  have h3 : ¬ 1099511627776 < r / 2 := by omega
  go_enter Try.func77, Try.ntmps77
  go_wp2
  go_ret3
  exact ⟨rfl, rfl⟩

set_option maxHeartbeats 400000 in
theorem epoch_no (r : Int) (w : World) (h0 : 0 ≤ r) (h1 : r < 18446744073709551616) (h2 : 1099511627776 < r / 2) :
    Calls Try.prog 77 #[.int .u64 r] w fun en w' => en = .returned (.tuple #[.int .i64 0, .int .i64 0, .bool false]) ∧ w = w' := by
  go_enter Try.func77, Try.ntmps77
  go_wp2
  go_ret3
  exact ⟨rfl, rfl⟩

theorem makes_func (fn : Fn) (first cap : Array Value) (w : World) : (Instr.makeFunc fn first cap).run Try.prog w = .ok (.func fn first cap) w := rfl

set_option maxHeartbeats 400000 in
theorem bankat_one (p b i l d : Int) (w : World) (h0 : 0 ≤ b) (h1 : b ≤ 131072) :
    Calls Try.prog 73 #[gv p b i l d, .int .i64 1] w fun e w' => e = .returned (.int .i64 (32 * (1 + b))) ∧ Below w.heap.size w w' := by
  unfold gv
  have hmf := makes_func
  go_enter Try.func73, Try.ntmps73
  go_wp2
  go_ret
  exact ⟨rfl, ((Below.refl _ _).alloc (Nat.le_refl _) _).alloc (by simp) _⟩

set_option maxHeartbeats 400000 in
theorem bankat_not (p b i l d k : Int) (w : World) (hk : (k != 1) = true) :
    Calls Try.prog 73 #[gv p b i l d, .int .i64 k] w fun e w' => e = .returned (.int .i64 32) ∧ Below w.heap.size w w' := by
  unfold gv
  have hmf := makes_func
  go_enter Try.func73, Try.ntmps73
  go_wp2
  go_ret
  exact ⟨by simp, ((Below.refl _ _).alloc (Nat.le_refl _) _).alloc (by simp) _⟩

/-- Bank k's first word, b pages to a bank. -/
def bankAt (b k : Int) : Int := if k = 1 then 32 * (1 + b) else 32

theorem bankAt_le {b k : Int} (h0 : 0 ≤ b) (h1 : b ≤ 131072) : 32 ≤ bankAt b k ∧ bankAt b k ≤ 5000000 := by unfold bankAt; split <;> omega

theorem bankat_any (p b i l d k : Int) (w : World) (h0 : 0 ≤ b) (h1 : b ≤ 131072) :
    Calls Try.prog 73 #[gv p b i l d, .int .i64 k] w fun e w' => e = .returned (.int .i64 (bankAt b k)) ∧ Below w.heap.size w w' := by
  by_cases hk : k = 1
  · subst hk; exact bankat_one p b i l d w h0 h1
  · have := bankat_not p b i l d k w (by simpa using hk)
    unfold bankAt; rw [if_neg hk]; exact this

set_option maxHeartbeats 400000 in
theorem imageat_any (p b i l d k : Int) (w : World) (h0 : 0 ≤ b) (h1 : b ≤ 131072) :
    Calls Try.prog 76 #[gv p b i l d, .int .i64 k] w fun e w' => e = .returned (.int .i64 (bankAt b k + 2)) ∧ Below w.heap.size w w' := by
  have hx := bankAt_le (k := k) h0 h1
  have H0 := fun w => bankat_any p b i l d k w h0 h1
  unfold gv at H0 ⊢
  generalize bankAt b k = x at *
  have H := Lib.hid H0
  clear H0
  go_enter Try.func76, Try.ntmps76
  go_wp2_with (go_at_call 73; refine (H.out _).mono ?_; rintro e w' ⟨rfl, hb⟩)
  go_ret
  exact ⟨rfl, ((Below.refl _ _).alloc (Nat.le_refl _) _).trans (hb.mono (by simp))⟩

set_option maxHeartbeats 400000 in
theorem logat_any (p b i l d k : Int) (w : World) (h0 : 0 ≤ b) (h1 : b ≤ 131072) (i0 : 0 ≤ i) (i1 : i ≤ 5000000) :
    Calls Try.prog 71 #[gv p b i l d, .int .i64 k] w fun e w' => e = .returned (.int .i64 (bankAt b k + 2 + i)) ∧ Below w.heap.size w w' := by
  have hx := bankAt_le (k := k) h0 h1
  have H0 := fun w => imageat_any p b i l d k w h0 h1
  unfold gv at H0 ⊢
  generalize bankAt b k = x at *
  have H := Lib.hid H0
  clear H0
  have hw : IntKind.i64.wrap (x + 2 + i) = x + 2 + i := IntWalk.i64_in _ (by omega)
  go_enter Try.func71, Try.ntmps71
  go_wp2_with fail
  go_region_held3 (fun w' => w'.cell? ⟨w.heap.size, 0, none⟩ = some (.int .i64 p) ∧ w'.cell? ⟨w.heap.size, 1, none⟩ = some (.int .i64 b) ∧ w'.cell? ⟨w.heap.size, 2, none⟩ = some (.int .i64 i) ∧ w'.cell? ⟨w.heap.size, 3, none⟩ = some (.int .i64 l) ∧ w'.cell? ⟨w.heap.size, 4, none⟩ = some (.int .i64 d)) (first | go_keep | (refine ⟨?_, ?_, ?_, ?_, ?_⟩ <;> (rw [hb1.cell (by simp)]; go_keep))) ((go_at_call 76; refine (H.out _).mono ?_; rintro e w' ⟨rfl, hb1⟩))
  go_wp2
  go_ret
  exact ⟨rfl, (((Below.refl _ _).alloc (Nat.le_refl _) _).drew).trans (hb1.mono (by simp))⟩

set_option maxHeartbeats 400000 in
theorem geomwords_any (p b i l d : Int) (w : World) (h0 : 0 ≤ p) (h1 : p ≤ 1048576) :
    Calls Try.prog 66 #[gv p b i l d] w fun e w' => e = .returned (.int .i64 (p * 32)) ∧ Below w.heap.size w w' := by
  unfold gv
  go_enter Try.func66, Try.ntmps66
  go_wp2
  go_ret
  exact ⟨rfl, (Below.refl _ _).alloc (Nat.le_refl _) _⟩

end Go.Proofs.Ytdnoniolpplgiaa
