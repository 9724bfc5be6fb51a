/- What the functions of package geom, and the references on its places, compute: contracts. -/
import Derived.Test.YtkakhjaaakophaaProg
import Derived.WalkKit
import Derived.WalkSpells
import Derived.WalkLawsBesides
import Derived.Laws.StructEq
import Derived.Deep.RegionHeld3
import Derived.BigQuiet
import Derived.Lib.Hide
namespace Go.Proofs.Ytkakhjaaakophaa
open Go.RowKit

/-- A geom, as a value. -/
def gv (p b i l d : Int) : Value := .agg #[.int .i64 p, .int .i64 b, .int .i64 i, .int .i64 l, .int .i64 d]

set_option maxHeartbeats 400000 in
theorem of_no (n : Int) (w : World) (h : n < 64 ∨ 1048576 < n) :
    Calls Try.prog 17 #[.int .i64 n] w fun e w' => e = .returned (.tuple #[.agg #[.int .i64 0, .int .i64 0, .int .i64 0, .int .i64 0, .int .i64 0], .bool false]) ∧ Below w.heap.size w w' := by
  rcases h with h | h
  · go_enter Try.func17, Try.ntmps17
    go_wp2
    exact bodyPost_ret (v := .tuple #[.agg #[.int .i64 0, .int .i64 0, .int .i64 0, .int .i64 0, .int .i64 0], .bool false]) (by simp [results, Try.results17, go_sem]) rfl ⟨rfl, (Below.refl _ _).alloc (Nat.le_refl _) _⟩
  · have h' : ¬ n < 64 := by omega
    go_enter Try.func17, Try.ntmps17
    go_wp2
    exact bodyPost_ret (v := .tuple #[.agg #[.int .i64 0, .int .i64 0, .int .i64 0, .int .i64 0, .int .i64 0], .bool false]) (by simp [results, Try.results17, go_sem]) rfl ⟨rfl, (Below.refl _ _).alloc (Nat.le_refl _) _⟩

set_option maxHeartbeats 400000 in
theorem of_yes (n : Int) (w : World) (h1 : 64 ≤ n) (h2 : n ≤ 1048576) :
    Calls Try.prog 17 #[.int .i64 n] w fun e w' => e = .returned (.tuple #[.agg #[.int .i64 n, .int .i64 (n / 8), .int .i64 ((n / 8 * 32 - 2) / 2), .int .i64 ((n / 8 * 32 - 2) - (n / 8 * 32 - 2) / 2), .int .i64 (n - 1 - 2 * (n / 8))], .bool true]) ∧ Below w.heap.size w w' := by
  go_enter Try.func17, Try.ntmps17
  go_wp2
  exact bodyPost_ret (v := .tuple #[.agg #[.int .i64 n, .int .i64 (n / 8), .int .i64 ((n / 8 * 32 - 2) / 2), .int .i64 ((n / 8 * 32 - 2) - (n / 8 * 32 - 2) / 2), .int .i64 (n - 1 - 2 * (n / 8))], .bool true]) (by simp [results, Try.results17, go_sem]) rfl ⟨rfl, ((Below.refl _ _).alloc (Nat.le_refl _) _).alloc (by simp) _⟩

set_option maxHeartbeats 400000 in
theorem awake6 (w : World) :
    Calls Try.prog 14 #[] w fun e w' => e = .returned (.bool true) ∧ Below w.heap.size w w' := by
  go_enter Try.func14, Try.ntmps14
  go_wp2_with (go_at_call 17; refine (of_yes 64 _ (by omega) (by omega)).mono ?_; rintro e w' ⟨rfl, hb⟩)
  go_ret
  exact ⟨rfl, hb.alloc hb.size _⟩

set_option maxHeartbeats 400000 in
theorem root_one (e : Int) (w : World) (h0 : 0 ≤ e) (h1 : e ≤ 1099511627776) :
    Calls Try.prog 16 #[.int .i64 e, .int .i64 1] w fun en w' => en = .returned (.int .u64 (2 * e + 1)) ∧ w = w' := by
  go_enter Try.func16, Try.ntmps16
  go_wp2
  go_ret
  exact ⟨rfl, rfl⟩

set_option maxHeartbeats 400000 in
theorem root_not (e k : Int) (w : World) (h0 : 0 ≤ e) (h1 : e ≤ 1099511627776) (hk : (k == 1) = false) :
    Calls Try.prog 16 #[.int .i64 e, .int .i64 k] w fun en w' => en = .returned (.int .u64 (2 * e)) ∧ w = w' := by
  go_enter Try.func16, Try.ntmps16
  go_wp2
  go_ret
  exact ⟨rfl, rfl⟩

set_option maxHeartbeats 400000 in
theorem root_off_one (e : Int) (w : World) (h0 : e < 0 ∨ 1099511627776 < e) :
    Calls Try.prog 16 #[.int .i64 e, .int .i64 1] w fun en w' => en = .returned (.int .u64 1) ∧ w = w' := by
  rcases h0 with h0 | h0
  · go_enter Try.func16, Try.ntmps16
    go_wp2
    go_ret
    exact ⟨rfl, rfl⟩
  · have h1 : ¬ e < 0 := by omega
    go_enter Try.func16, Try.ntmps16
    go_wp2
    go_ret
    exact ⟨rfl, rfl⟩

set_option maxHeartbeats 400000 in
theorem root_off_not (e k : Int) (w : World) (h0 : e < 0 ∨ 1099511627776 < e) (hk : (k == 1) = false) :
    Calls Try.prog 16 #[.int .i64 e, .int .i64 k] w fun en w' => en = .returned (.int .u64 0) ∧ w = w' := by
  rcases h0 with h0 | h0
  · go_enter Try.func16, Try.ntmps16
    go_wp2
    go_ret
    exact ⟨rfl, rfl⟩
  · have h1 : ¬ e < 0 := by omega
    go_enter Try.func16, Try.ntmps16
    go_wp2
    go_ret
    exact ⟨rfl, rfl⟩

set_option maxHeartbeats 400000 in
theorem epoch_yes (r : Int) (w : World) (h0 : 0 ≤ r) (h1 : r < 18446744073709551616) (h2 : r / 2 ≤ 1099511627776) :
    Calls Try.prog 15 #[.int .u64 r] w fun en w' => en = .returned (.tuple #[.int .i64 (r / 2), .int .i64 (r % 2), .bool true]) ∧ w = w' := by
  have h3 : ¬ 1099511627776 < r / 2 := by omega
  go_enter Try.func15, Try.ntmps15
  go_wp2
  go_ret3
  exact ⟨rfl, rfl⟩

set_option maxHeartbeats 400000 in
theorem epoch_no (r : Int) (w : World) (h0 : 0 ≤ r) (h1 : r < 18446744073709551616) (h2 : 1099511627776 < r / 2) :
    Calls Try.prog 15 #[.int .u64 r] w fun en w' => en = .returned (.tuple #[.int .i64 0, .int .i64 0, .bool false]) ∧ w = w' := by
  go_enter Try.func15, Try.ntmps15
  go_wp2
  go_ret3
  exact ⟨rfl, rfl⟩

theorem makes_func (fn : Fn) (first cap : Array Value) (w : World) : (Instr.makeFunc fn first cap).run Try.prog w = .ok (.func fn first cap) w := rfl

set_option maxHeartbeats 400000 in
theorem bankat_one (p b i l d : Int) (w : World) (h0 : 0 ≤ b) (h1 : b ≤ 131072) :
    Calls Try.prog 18 #[gv p b i l d, .int .i64 1] w fun e w' => e = .returned (.int .i64 (32 * (1 + b))) ∧ Below w.heap.size w w' := by
  unfold gv
  have hmf := makes_func
  go_enter Try.func18, Try.ntmps18
  go_wp2
  go_ret
  exact ⟨rfl, ((Below.refl _ _).alloc (Nat.le_refl _) _).alloc (by simp) _⟩

set_option maxHeartbeats 400000 in
theorem bankat_not (p b i l d k : Int) (w : World) (hk : (k != 1) = true) :
    Calls Try.prog 18 #[gv p b i l d, .int .i64 k] w fun e w' => e = .returned (.int .i64 32) ∧ Below w.heap.size w w' := by
  unfold gv
  have hmf := makes_func
  go_enter Try.func18, Try.ntmps18
  go_wp2
  go_ret
  exact ⟨by simp, ((Below.refl _ _).alloc (Nat.le_refl _) _).alloc (by simp) _⟩

/-- Bank k's first word, b pages to a bank. -/
def bankAt (b k : Int) : Int := if k = 1 then 32 * (1 + b) else 32

theorem bankAt_le {b k : Int} (h0 : 0 ≤ b) (h1 : b ≤ 131072) : 32 ≤ bankAt b k ∧ bankAt b k ≤ 5000000 := by unfold bankAt; split <;> omega

theorem bankat_any (p b i l d k : Int) (w : World) (h0 : 0 ≤ b) (h1 : b ≤ 131072) :
    Calls Try.prog 18 #[gv p b i l d, .int .i64 k] w fun e w' => e = .returned (.int .i64 (bankAt b k)) ∧ Below w.heap.size w w' := by
  by_cases hk : k = 1
  · subst hk; exact bankat_one p b i l d w h0 h1
  · have := bankat_not p b i l d k w (by simpa using hk)
    unfold bankAt; rw [if_neg hk]; exact this

set_option maxHeartbeats 400000 in
theorem imageat_any (p b i l d k : Int) (w : World) (h0 : 0 ≤ b) (h1 : b ≤ 131072) :
    Calls Try.prog 21 #[gv p b i l d, .int .i64 k] w fun e w' => e = .returned (.int .i64 (bankAt b k + 2)) ∧ Below w.heap.size w w' := by
  have hx := bankAt_le (k := k) h0 h1
  have H0 := fun w => bankat_any p b i l d k w h0 h1
  unfold gv at H0 ⊢
  generalize bankAt b k = x at *
  have H := Lib.hid H0
  clear H0
  go_enter Try.func21, Try.ntmps21
  go_wp2_with (go_at_call 18; refine (H.out _).mono ?_; rintro e w' ⟨rfl, hb⟩)
  go_ret
  exact ⟨rfl, ((Below.refl _ _).alloc (Nat.le_refl _) _).trans (hb.mono (by simp))⟩

set_option maxHeartbeats 400000 in
theorem logat_any (p b i l d k : Int) (w : World) (h0 : 0 ≤ b) (h1 : b ≤ 131072) (i0 : 0 ≤ i) (i1 : i ≤ 5000000) :
    Calls Try.prog 20 #[gv p b i l d, .int .i64 k] w fun e w' => e = .returned (.int .i64 (bankAt b k + 2 + i)) ∧ Below w.heap.size w w' := by
  have hx := bankAt_le (k := k) h0 h1
  have H0 := fun w => imageat_any p b i l d k w h0 h1
  unfold gv at H0 ⊢
  generalize bankAt b k = x at *
  have H := Lib.hid H0
  clear H0
  have hw : IntKind.i64.wrap (x + 2 + i) = x + 2 + i := IntWalk.i64_in _ (by omega)
  go_enter Try.func20, Try.ntmps20
  go_wp2_with fail
  go_region_held3 (fun w' => w'.cell? ⟨w.heap.size, 0, none⟩ = some (.int .i64 p) ∧ w'.cell? ⟨w.heap.size, 1, none⟩ = some (.int .i64 b) ∧ w'.cell? ⟨w.heap.size, 2, none⟩ = some (.int .i64 i) ∧ w'.cell? ⟨w.heap.size, 3, none⟩ = some (.int .i64 l) ∧ w'.cell? ⟨w.heap.size, 4, none⟩ = some (.int .i64 d)) (first | go_keep | (refine ⟨?_, ?_, ?_, ?_, ?_⟩ <;> (rw [hb1.cell (by simp)]; go_keep))) ((go_at_call 21; refine (H.out _).mono ?_; rintro e w' ⟨rfl, hb1⟩))
  go_wp2
  go_ret
  exact ⟨rfl, (((Below.refl _ _).alloc (Nat.le_refl _) _).drew).trans (hb1.mono (by simp))⟩

set_option maxHeartbeats 400000 in
theorem refbank_one (p b i l d : Int) (w : World) (h0 : 0 ≤ b) (h1 : b ≤ 131072) :
    Calls Try.prog 30 #[gv p b i l d, .int .i64 1] w fun e w' => e = .returned (.int .i64 (32 * (1 + b))) ∧ Below w.heap.size w w' := by
  unfold gv
  go_enter Try.func30, Try.ntmps30
  go_wp2
  go_ret
  exact ⟨rfl, (Below.refl _ _).alloc (Nat.le_refl _) _⟩

set_option maxHeartbeats 400000 in
theorem refbank_not (p b i l d k : Int) (w : World) (hk : (k == 1) = false) :
    Calls Try.prog 30 #[gv p b i l d, .int .i64 k] w fun e w' => e = .returned (.int .i64 32) ∧ Below w.heap.size w w' := by
  unfold gv
  go_enter Try.func30, Try.ntmps30
  go_wp2
  go_ret
  exact ⟨rfl, (Below.refl _ _).alloc (Nat.le_refl _) _⟩

theorem refbank_any (p b i l d k : Int) (w : World) (h0 : 0 ≤ b) (h1 : b ≤ 131072) :
    Calls Try.prog 30 #[gv p b i l d, .int .i64 k] w fun e w' => e = .returned (.int .i64 (bankAt b k)) ∧ Below w.heap.size w w' := by
  by_cases hk : k = 1
  · subst hk; exact refbank_one p b i l d w h0 h1
  · have := refbank_not p b i l d k w (by simpa using hk)
    unfold bankAt; rw [if_neg hk]; exact this


set_option maxHeartbeats 400000 in
theorem refimage_any (p b i l d k : Int) (w : World) (h0 : 0 ≤ b) (h1 : b ≤ 131072) :
    Calls Try.prog 31 #[gv p b i l d, .int .i64 k] w fun e w' => e = .returned (.int .i64 (bankAt b k + 2)) ∧ Below w.heap.size w w' := by
  have hx := bankAt_le (k := k) h0 h1
  have H0 := fun w => refbank_any p b i l d k w h0 h1
  unfold gv at H0 ⊢
  generalize bankAt b k = x at *
  have H := Lib.hid H0
  clear H0
  go_enter Try.func31, Try.ntmps31
  go_wp2_with (go_at_call 30; refine (H.out _).mono ?_; rintro e w' ⟨rfl, hb⟩)
  go_ret
  exact ⟨rfl, ((Below.refl _ _).alloc (Nat.le_refl _) _).trans (hb.mono (by simp))⟩

set_option maxHeartbeats 400000 in
theorem reflog_any (p b i l d k : Int) (w : World) (h0 : 0 ≤ b) (h1 : b ≤ 131072) (i0 : 0 ≤ i) (i1 : i ≤ 5000000) :
    Calls Try.prog 32 #[gv p b i l d, .int .i64 k] w fun e w' => e = .returned (.int .i64 (bankAt b k + 2 + i)) ∧ Below w.heap.size w w' := by
  have hx := bankAt_le (k := k) h0 h1
  have H0 := fun w => refbank_any p b i l d k w h0 h1
  unfold gv at H0 ⊢
  generalize bankAt b k = x at *
  have H := Lib.hid H0
  clear H0
  have hw0 : IntKind.i64.wrap (x + 2) = x + 2 := IntWalk.i64_in _ (by omega)
  have hw : IntKind.i64.wrap (x + 2 + i) = x + 2 + i := IntWalk.i64_in _ (by omega)
  go_enter Try.func32, Try.ntmps32
  go_wp2_with fail
  go_region_held3 (fun w' => w'.cell? ⟨w.heap.size, 0, none⟩ = some (.int .i64 p) ∧ w'.cell? ⟨w.heap.size, 1, none⟩ = some (.int .i64 b) ∧ w'.cell? ⟨w.heap.size, 2, none⟩ = some (.int .i64 i) ∧ w'.cell? ⟨w.heap.size, 3, none⟩ = some (.int .i64 l) ∧ w'.cell? ⟨w.heap.size, 4, none⟩ = some (.int .i64 d)) (first | go_keep | (refine ⟨?_, ?_, ?_, ?_, ?_⟩ <;> (rw [hb1.cell (by simp)]; go_keep))) ((go_at_call 30; refine (H.out _).mono ?_; rintro e w' ⟨rfl, hb1⟩))
  go_wp2
  go_ret
  exact ⟨rfl, (((Below.refl _ _).alloc (Nat.le_refl _) _).drew).trans (hb1.mono (by simp))⟩

/-- Page q's first word. -/
def pageAt (b d q : Int) : Int := if q < 1 ∨ d < q then 0 else 32 * (2 * b + q)

set_option maxHeartbeats 400000 in
theorem pageat_low (p b i l d q : Int) (w : World) (hq : q < 1) :
    Calls Try.prog 19 #[gv p b i l d, .int .i64 q] w fun e w' => e = .returned (.int .i64 0) ∧ Below w.heap.size w w' := by
  unfold gv
  go_enter Try.func19, Try.ntmps19
  go_wp2
  go_ret
  exact ⟨rfl, (Below.refl _ _).alloc (Nat.le_refl _) _⟩

set_option maxHeartbeats 400000 in
theorem pageat_high (p b i l d q : Int) (w : World) (hq : ¬ q < 1) (hd : d < q) :
    Calls Try.prog 19 #[gv p b i l d, .int .i64 q] w fun e w' => e = .returned (.int .i64 0) ∧ Below w.heap.size w w' := by
  unfold gv
  go_enter Try.func19, Try.ntmps19
  go_wp2
  go_ret
  exact ⟨rfl, (Below.refl _ _).alloc (Nat.le_refl _) _⟩

set_option maxHeartbeats 400000 in
theorem pageat_in (p b i l d q : Int) (w : World) (h0 : 0 ≤ b) (h1 : b ≤ 131072) (hd1 : d ≤ 1048576) (hq : ¬ q < 1) (hd : ¬ d < q) :
    Calls Try.prog 19 #[gv p b i l d, .int .i64 q] w fun e w' => e = .returned (.int .i64 (32 * (2 * b + q))) ∧ Below w.heap.size w w' := by
  unfold gv
  go_enter Try.func19, Try.ntmps19
  go_wp2
  go_ret
  exact ⟨rfl, (Below.refl _ _).alloc (Nat.le_refl _) _⟩

theorem pageat_any (p b i l d q : Int) (w : World) (h0 : 0 ≤ b) (h1 : b ≤ 131072) (hd1 : d ≤ 1048576) :
    Calls Try.prog 19 #[gv p b i l d, .int .i64 q] w fun e w' => e = .returned (.int .i64 (pageAt b d q)) ∧ Below w.heap.size w w' := by
  unfold pageAt
  by_cases hq : q < 1
  · rw [if_pos (.inl hq)]; exact pageat_low p b i l d q w hq
  · by_cases hd : d < q
    · rw [if_pos (.inr hd)]; exact pageat_high p b i l d q w hq hd
    · rw [if_neg (by omega)]; exact pageat_in p b i l d q w h0 h1 hd1 hq hd

set_option maxHeartbeats 400000 in
theorem refpage_low (p b i l d q : Int) (w : World) (hq : q < 1) :
    Calls Try.prog 33 #[gv p b i l d, .int .i64 q] w fun e w' => e = .returned (.int .i64 0) ∧ Below w.heap.size w w' := by
  unfold gv
  go_enter Try.func33, Try.ntmps33
  go_wp2
  go_ret
  exact ⟨rfl, (Below.refl _ _).alloc (Nat.le_refl _) _⟩

set_option maxHeartbeats 400000 in
theorem refpage_high (p b i l d q : Int) (w : World) (hq : ¬ q < 1) (hd : d < q) :
    Calls Try.prog 33 #[gv p b i l d, .int .i64 q] w fun e w' => e = .returned (.int .i64 0) ∧ Below w.heap.size w w' := by
  unfold gv
  go_enter Try.func33, Try.ntmps33
  go_wp2
  go_ret
  exact ⟨rfl, (Below.refl _ _).alloc (Nat.le_refl _) _⟩

set_option maxHeartbeats 400000 in
theorem refpage_in (p b i l d q : Int) (w : World) (h0 : 0 ≤ b) (h1 : b ≤ 131072) (hd1 : d ≤ 1048576) (hq : ¬ q < 1) (hd : ¬ d < q) :
    Calls Try.prog 33 #[gv p b i l d, .int .i64 q] w fun e w' => e = .returned (.int .i64 (32 * (2 * b + q))) ∧ Below w.heap.size w w' := by
  unfold gv
  go_enter Try.func33, Try.ntmps33
  go_wp2
  go_ret
  exact ⟨rfl, (Below.refl _ _).alloc (Nat.le_refl _) _⟩

theorem refpage_any (p b i l d q : Int) (w : World) (h0 : 0 ≤ b) (h1 : b ≤ 131072) (hd1 : d ≤ 1048576) :
    Calls Try.prog 33 #[gv p b i l d, .int .i64 q] w fun e w' => e = .returned (.int .i64 (pageAt b d q)) ∧ Below w.heap.size w w' := by
  unfold pageAt
  by_cases hq : q < 1
  · rw [if_pos (.inl hq)]; exact refpage_low p b i l d q w hq
  · by_cases hd : d < q
    · rw [if_pos (.inr hd)]; exact refpage_high p b i l d q w hq hd
    · rw [if_neg (by omega)]; exact refpage_in p b i l d q w h0 h1 hd1 hq hd


set_option maxHeartbeats 400000 in
theorem words_any (p b i l d : Int) (w : World) (h0 : 0 ≤ p) (h1 : p ≤ 1048576) :
    Calls Try.prog 22 #[gv p b i l d] w fun e w' => e = .returned (.int .i64 (p * 32)) ∧ Below w.heap.size w w' := by
  unfold gv
  go_enter Try.func22, Try.ntmps22
  go_wp2
  go_ret
  exact ⟨rfl, (Below.refl _ _).alloc (Nat.le_refl _) _⟩

set_option maxHeartbeats 400000 in
theorem refgeom_no (n : Int) (w : World) (h : n < 64 ∨ 1048576 < n) :
    Calls Try.prog 29 #[.int .i64 n] w fun e w' => e = .returned (.tuple #[.agg #[.int .i64 0, .int .i64 0, .int .i64 0, .int .i64 0, .int .i64 0], .bool false]) ∧ Below w.heap.size w w' := by
  rcases h with h | h
  · go_enter Try.func29, Try.ntmps29
    go_wp2
    exact bodyPost_ret (v := .tuple #[.agg #[.int .i64 0, .int .i64 0, .int .i64 0, .int .i64 0, .int .i64 0], .bool false]) (by simp [results, Try.results29, go_sem]) rfl ⟨rfl, (Below.refl _ _).alloc (Nat.le_refl _) _⟩
  · have h' : ¬ n < 64 := by omega
    go_enter Try.func29, Try.ntmps29
    go_wp2
    exact bodyPost_ret (v := .tuple #[.agg #[.int .i64 0, .int .i64 0, .int .i64 0, .int .i64 0, .int .i64 0], .bool false]) (by simp [results, Try.results29, go_sem]) rfl ⟨rfl, (Below.refl _ _).alloc (Nat.le_refl _) _⟩

set_option maxHeartbeats 400000 in
theorem refgeom_yes (n : Int) (w : World) (h1 : 64 ≤ n) (h2 : n ≤ 1048576) :
    Calls Try.prog 29 #[.int .i64 n] w fun e w' => e = .returned (.tuple #[.agg #[.int .i64 n, .int .i64 (n / 8), .int .i64 ((32 * (n / 8) - 2) / 2), .int .i64 (32 * (n / 8) - 2 - (32 * (n / 8) - 2) / 2), .int .i64 (n - 1 - 2 * (n / 8))], .bool true]) ∧ Below w.heap.size w w' := by
  go_enter Try.func29, Try.ntmps29
  go_wp2
  exact bodyPost_ret (v := .tuple #[.agg #[.int .i64 n, .int .i64 (n / 8), .int .i64 ((32 * (n / 8) - 2) / 2), .int .i64 (32 * (n / 8) - 2 - (32 * (n / 8) - 2) / 2), .int .i64 (n - 1 - 2 * (n / 8))], .bool true]) (by simp [results, Try.results29, go_sem]) rfl ⟨rfl, (Below.refl _ _).alloc (Nat.le_refl _) _⟩

end Go.Proofs.Ytkakhjaaakophaa
