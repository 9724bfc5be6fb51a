/- Whether extents are right: the reference's, and the package's. -/
import Derived.Test.YtefbhcpcbolbiaaFew
namespace Go.Proofs.Ytefbhcpcbolbiaa
open Go.RowKit

/-- Whether the i-th one is right, behind the one ahead of it. -/
def nextB (a x : E) : Bool := !(decide (x.f < wrap64 (a.f + a.l)) || joinsB a x)
def okAt (xs : List E) (i : Nat) : Bool :=
  match xs[i]? with
  | none => true
  | some x => oneB x && (match i with | 0 => true | k + 1 => match xs[k]? with | some a => nextB a x | none => true)
def rightB (xs : List E) : Bool := (List.range xs.length).all (okAt xs)

theorem rightB_no {xs : List E} {j : Nat} (hj : j < xs.length) (h : okAt xs j = false) : rightB xs = false := by
  unfold rightB; rw [List.all_eq_false]
  exact ⟨j, List.mem_range.2 hj, by simp [h]⟩
theorem rightB_yes {xs : List E} (h : ∀ i, i < xs.length → okAt xs i = true) : rightB xs = true := by
  unfold rightB; rw [List.all_eq_true]
  exact fun i hi => h i (List.mem_range.1 hi)
theorem okAt_one {xs : List E} {j : Nat} {x : E} (hx : xs[j]? = some x) (h : oneB x = false) : okAt xs j = false := by
  unfold okAt; rw [hx]; simp [h]
theorem okAt_zero {xs : List E} {x : E} (hx : xs[0]? = some x) : okAt xs 0 = oneB x := by
  unfold okAt; rw [hx]; simp
theorem okAt_succ {xs : List E} {k : Nat} {a x : E} (ha : xs[k]? = some a) (hx : xs[k + 1]? = some x) : okAt xs (k + 1) = (oneB x && nextB a x) := by
  unfold okAt; rw [hx]; simp [ha]

theorem okAt_step {xs : List E} {j : Nat} (h : ∀ i, i < j → okAt xs i = true) (hj : okAt xs j = true) : ∀ i, i < j + 1 → okAt xs i = true := by
  intro i hi
  rcases Nat.lt_succ_iff_lt_or_eq.1 hi with h1 | rfl
  · exact h i h1
  · exact hj

set_option maxRecDepth 100000 in
set_option maxHeartbeats 4000000 in
theorem rightref_any {A : Option Addr} {n : Nat} {xs : List E} {w : World} (cap : Nat) (h : Exts w A n xs) (hm : n ≤ maxLen) : Calls Try.prog 8 #[.slice A n cap] w fun e w' => e = .returned (.bool (rightB xs)) ∧ Below w.heap.size w w' := by
  unfold maxLen at hm
  have H := Lib.hid h
  have hl : xs.length = n := h.1
  clear h
  go_enter Try.func8, Try.ntmps8
  go_wp2
  go_loopw [8] (fun i wr => ∃ j : Nat, j ≤ n ∧ i = .int .i64 j ∧ (∀ i, i < j → okAt xs i = true) ∧ Below w.heap.size w wr) (fun i _ => n - (intOf i).toNat)
  case atStart => exact ⟨0, Nat.zero_le _, rfl, fun i hi => absurd hi (Nat.not_lt_zero _), Below.refl _ _⟩
  case round =>
    obtain ⟨j, hj, rfl, hall, hb⟩ := hrel
    have Hall := Lib.hid hall
    clear hall
    by_cases hlt : j < n
    · obtain ⟨b, off, rfl, hbl, x, hx, c0, c1, c2⟩ := (H.out.below hb).at hlt
      have Hno := Lib.hid (fun h => rightB_no (xs := xs) (j := j) (by omega) h)
      have Hx := Lib.hid hx
      by_cases a1 : 0 ≤ x.f
      rotate_left
      · have hno := Hno.out (okAt_one Hx.out (by unfold oneB; simp; omega))
        clear hx
        go_wp2
        go_ret
        exact ⟨by first | rfl | (rw [hno]; rfl), hb.alloc hb.size _⟩
      by_cases a2 : x.f ≤ 1048576
      rotate_left
      · have hno := Hno.out (okAt_one Hx.out (by unfold oneB; simp; omega))
        clear hx
        go_wp2
        go_ret
        exact ⟨by first | rfl | (rw [hno]; rfl), hb.alloc hb.size _⟩
      by_cases a3 : 1 ≤ x.l
      rotate_left
      · have hno := Hno.out (okAt_one Hx.out (by unfold oneB; simp; omega))
        clear hx
        go_wp2
        go_ret
        exact ⟨by first | rfl | (rw [hno]; rfl), hb.alloc hb.size _⟩
      by_cases a4 : x.l ≤ 1048576
      rotate_left
      · have hno := Hno.out (okAt_one Hx.out (by unfold oneB; simp; omega))
        clear hx
        go_wp2
        go_ret
        exact ⟨by first | rfl | (rw [hno]; rfl), hb.alloc hb.size _⟩
      by_cases a5 : 1 ≤ x.p
      rotate_left
      · have hno := Hno.out (okAt_one Hx.out (by unfold oneB; simp; omega))
        clear hx
        go_wp2
        go_ret
        exact ⟨by first | rfl | (rw [hno]; rfl), hb.alloc hb.size _⟩
      by_cases a6 : x.p ≤ 1048576
      rotate_left
      · have hno := Hno.out (okAt_one Hx.out (by unfold oneB; simp; omega))
        clear hx
        go_wp2
        go_ret
        exact ⟨by first | rfl | (rw [hno]; rfl), hb.alloc hb.size _⟩
      have s1 : wrap64 (x.f + x.l) = x.f + x.l := by unfold wrap64; omega
      have s2 : wrap64 (x.p + x.l) = x.p + x.l := by unfold wrap64; omega
      by_cases a7 : x.f + x.l ≤ 1048576
      rotate_left
      · have hno := Hno.out (okAt_one Hx.out (by unfold oneB; simp; omega))
        clear hx
        go_wp2
        go_ret
        exact ⟨by first | rfl | (rw [hno]; rfl), hb.alloc hb.size _⟩
      by_cases a8 : x.p + x.l ≤ 1048576
      rotate_left
      · have hno := Hno.out (okAt_one Hx.out (by unfold oneB; simp; omega))
        clear hx
        go_wp2
        go_ret
        exact ⟨by first | rfl | (rw [hno]; rfl), hb.alloc hb.size _⟩
      have h1 : oneB x = true := by unfold oneB; simp; omega
      have H1 := Lib.hid h1
      clear h1 hx
      by_cases hz : j = 0
      · have hk : okAt xs j = true := by
          have h := Hx.out
          rw [hz] at h ⊢
          rw [okAt_zero h, H1.out]
        have hj0 : ¬ (0 : Int) < (j : Int) := by omega
        have Hk := Lib.hid hk
        clear hk hz
        go_wp2
        go_roundw
        case rel => exact ⟨j + 1, by omega, by go_num, okAt_step Hall.out Hk.out, hb.alloc hb.size _⟩
        case measure => simp [intOf]; omega
      · obtain ⟨k, hjk⟩ : ∃ k, j = k + 1 := ⟨j - 1, by omega⟩
        obtain ⟨b', off', hA, _, a, ha, d0, d1, d2⟩ := (H.out.below hb).at (show k < n by omega)
        cases hA
        have hk : okAt xs j = nextB a x := by
          have h := Hx.out
          rw [hjk] at h ⊢
          rw [okAt_succ ha h, H1.out, Bool.true_and]
        have Hk := Lib.hid hk
        have hj0 : (0 : Int) < (j : Int) := by omega
        have hj1 : IntKind.i64.wrap ((j : Int) - 1) = (k : Int) := by rw [IntWalk.i64_left]; unfold wrap64; omega
        have hk0 : (0 : Int) ≤ (k : Int) := by omega
        have hk1 : (k : Int) < (n : Int) := by omega
        have Hjk := Lib.hid hjk
        clear hk ha hz hjk
        by_cases b1 : x.f < wrap64 (a.f + a.l)
        · have hno := Hno.out (by rw [Hk.out]; unfold nextB; simp [b1])
          go_wp2
          go_ret
          exact ⟨by first | rfl | (rw [hno]; rfl), (hb.alloc hb.size _).alloc (Nat.le_trans hb.size (by simp)) _⟩
        · by_cases b2 : wrap64 (a.f + a.l) = x.f
          · by_cases b3 : wrap64 (a.p + a.l) = x.p
            · have hno := Hno.out (by rw [Hk.out]; unfold nextB joinsB; simp [b2, b3])
              go_wp2
              go_ret
              exact ⟨by first | rfl | (rw [hno]; rfl), (hb.alloc hb.size _).alloc (Nat.le_trans hb.size (by simp)) _⟩
            · have hyes : okAt xs j = true := by rw [Hk.out]; unfold nextB joinsB; simp [b2, b3]
              have Hyes := Lib.hid hyes
              clear hyes
              go_wp2
              go_roundw
              case rel => exact ⟨j + 1, by omega, by go_num, okAt_step Hall.out Hyes.out, (hb.alloc hb.size _).alloc (Nat.le_trans hb.size (by simp)) _⟩
              case measure => simp [intOf]; omega
          · have hyes : okAt xs j = true := by rw [Hk.out]; unfold nextB joinsB; simp [b1, b2]
            have Hyes := Lib.hid hyes
            clear hyes
            go_wp2
            go_roundw
            case rel => exact ⟨j + 1, by omega, by go_num, okAt_step Hall.out Hyes.out, (hb.alloc hb.size _).alloc (Nat.le_trans hb.size (by simp)) _⟩
            case measure => simp [intOf]; omega
    · have e : j = n := by omega
      have hge : ¬ (j : Int) < (n : Int) := by omega
      have hyes := rightB_yes (xs := xs) (fun i hi => Hall.out i (by omega))
      clear e hlt hj
      go_wp2
      go_ret
      exact ⟨rfl, hb⟩
end Go.Proofs.Ytefbhcpcbolbiaa
