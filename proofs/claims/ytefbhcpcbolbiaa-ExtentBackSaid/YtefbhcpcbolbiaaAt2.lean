/- Of a place: the package's At; and Len. -/
import Derived.Test.YtefbhcpcbolbiaaAt
import Derived.WalkMore
namespace Go.Proofs.Ytefbhcpcbolbiaa
open Go.RowKit

set_option maxRecDepth 100000 in
set_option maxHeartbeats 4000000 in
theorem at_any {A : Option Addr} {n : Nat} {xs : List E} {w : World} (cap : Nat) (i : Int) (h : Exts w A n xs) (hm : n ≤ maxLen) : Calls Try.prog 15 #[.slice A n cap, .int .i64 i] w fun e w' => e = .returned (.int .i64 (pageB xs i)) ∧ Below w.heap.size w w' := by
  have CR := Lib.hid (right_any cap h hm)
  unfold maxLen at hm
  have H := Lib.hid h
  have hl : xs.length = n := h.1
  clear h
  have hp : pageB xs i = if rightB xs then findP xs i else 0 := rfl
  have Hp := Lib.hid hp
  clear hp
  cases hr : rightB xs with
  | false =>
    rw [hr] at CR
    have hfin : pageB xs i = 0 := by rw [Hp.out, hr]; rfl
    have Hfin := Lib.hid hfin
    clear hfin hr
    go_enter Try.func15, Try.ntmps15
    go_wp2
    go_step3
    go_wp2_with (first | (go_at_call 14; refine (CR.out).mono ?_; rintro e w2 ⟨rfl, hb2⟩))
    rw [Exit.noGoto_ret]
    go_ret
    exact ⟨by rw [Hfin.out]; rfl, hb2⟩
  | true =>
    rw [hr] at CR
    have hfin : pageB xs i = findP xs i := by rw [Hp.out, hr]; rfl
    have Hfin := Lib.hid hfin
    clear hfin hr Hp
    go_enter Try.func15, Try.ntmps15
    go_wp2
    go_step3
    go_wp2_with (first | (go_at_call 14; refine (CR.out).mono ?_; rintro e w2 ⟨rfl, hb2⟩))
    go_step3
    go_wp2
    go_loopw [12] (fun c wr => ∃ j : Nat, j ≤ n ∧ c = .int .i64 j ∧ (∀ k y, k < j → xs[k]? = some y → inB y i = false) ∧ Below w.heap.size w wr) (fun c _ => n - (intOf c).toNat)
    case atStart => exact ⟨0, Nat.zero_le _, rfl, fun k y hk => absurd hk (Nat.not_lt_zero _), hb2⟩
    case round =>
      obtain ⟨j, hj, rfl, hall, hb⟩ := hrel
      have Hall := Lib.hid hall
      clear hall
      by_cases hlt : j < n
      · obtain ⟨b, off, rfl, hbl, x, hx, c0, c1, c2⟩ := (H.out.below hb).at hlt
        have Hx := Lib.hid hx
        clear hx
        have hba : Below w.heap.size w (wr.alloc (.cells #[.int .i64 x.f, .int .i64 x.l, .int .i64 x.p] 29)) := hb.alloc hb.size _
        by_cases a1 : i < x.f
        · have hin : inB x i = false := by unfold inB; simp; omega
          have Hin := Lib.hid hin
          clear hin
          go_wp2
          go_roundw
          case rel => exact ⟨j + 1, by omega, by go_num, (fun k y hk hy => (Nat.lt_succ_iff_lt_or_eq.1 hk).elim (fun hk => Hall.out k y hk hy) (fun hk => by subst hk; rw [Hx.out] at hy; cases hy; exact Hin.out)), hba⟩
          case measure => simp [intOf]; omega
        · by_cases a2 : i < wrap64 (x.f + x.l)
          · have hin : inB x i = true := by unfold inB; simp [a2]; omega
            have hf2 : pageB xs i = pageIn x i := by rw [Hfin.out]; exact findP_at Hall.out Hx.out hin
            unfold pageIn at hf2
            have Hf2 := Lib.hid hf2
            have a3 : ¬ wrap64 (x.f + x.l) ≤ i := by omega
            clear hin hf2
            go_wp2
            go_ret
            exact ⟨by rw [Hf2.out]; rfl, hba⟩
          · have hin : inB x i = false := by unfold inB; simp [a2]
            have Hin := Lib.hid hin
            have a3 : wrap64 (x.f + x.l) ≤ i := by omega
            clear hin
            go_wp2
            go_roundw
            case rel => exact ⟨j + 1, by omega, by go_num, (fun k y hk hy => (Nat.lt_succ_iff_lt_or_eq.1 hk).elim (fun hk => Hall.out k y hk hy) (fun hk => by subst hk; rw [Hx.out] at hy; cases hy; exact Hin.out)), hba⟩
            case measure => simp [intOf]; omega
      · have e : j = n := by omega
        have hge : ¬ (j : Int) < (n : Int) := by omega
        have hf2 : pageB xs i = 0 := by
          rw [Hfin.out]; exact findP_none (fun k y hy => Hall.out k y (by have := (List.getElem?_eq_some_iff.1 hy).1; omega) hy)
        have Hf2 := Lib.hid hf2
        clear e hlt hj hf2
        go_wp2
        go_ret
        exact ⟨by rw [Hf2.out]; rfl, hb⟩

/-- All lengths, added up. -/
def sumB (xs : List E) : Int := xs.foldl (fun s x => wrap64 (s + x.l)) 0
theorem sumB_snoc (xs : List E) (x : E) : sumB (xs ++ [x]) = wrap64 (sumB xs + x.l) := by unfold sumB; rw [List.foldl_append]; rfl

set_option maxRecDepth 100000 in
set_option maxHeartbeats 4000000 in
theorem len_any {A : Option Addr} {n : Nat} {xs : List E} {w : World} (cap : Nat) (h : Exts w A n xs) (hm : n ≤ maxLen) : Calls Try.prog 16 #[.slice A n cap] w fun e w' => e = .returned (.int .i64 (if rightB xs then sumB xs else 0)) ∧ Below w.heap.size w w' := by
  have CR := Lib.hid (right_any cap h hm)
  unfold maxLen at hm
  have H := Lib.hid h
  have hl : xs.length = n := h.1
  clear h
  cases hr : rightB xs with
  | false =>
    rw [hr] at CR
    clear hr
    go_enter Try.func16, Try.ntmps16
    go_wp2_with (first | (go_at_call 14; refine (CR.out).mono ?_; rintro e w2 ⟨rfl, hb2⟩))
    go_ret
    exact ⟨rfl, hb2⟩
  | true =>
    rw [hr] at CR
    clear hr
    go_enter Try.func16, Try.ntmps16
    go_wp2_with (first | (go_at_call 14; refine (CR.out).mono ?_; rintro e w2 ⟨rfl, hb2⟩))
    go_loopw [3, 11] (fun s c wr => ∃ j : Nat, j ≤ n ∧ c = .int .i64 j ∧ s = .int .i64 (sumB (xs.take j)) ∧ Below w.heap.size w wr) (fun _ c _ => n - (intOf c).toNat)
    case atStart => exact ⟨0, Nat.zero_le _, rfl, rfl, hb2⟩
    case round =>
      obtain ⟨j, hj, rfl, rfl, hb⟩ := hrel
      by_cases hlt : j < n
      · obtain ⟨b, off, rfl, hbl, x, hx, c0, c1, c2⟩ := (H.out.below hb).at hlt
        have hs := sumB_snoc (xs.take j) x
        rw [← take_snoc hx] at hs
        have Hs := Lib.hid hs
        clear hs hx
        generalize sumB (xs.take j) = s at *
        go_wp2
        go_roundw
        case rel => exact ⟨j + 1, by omega, by go_num, by rw [Hs.out], hb.alloc hb.size _⟩
        case measure => simp [intOf]; omega
      · have e : j = n := by omega
        have et : xs.take j = xs := List.take_of_length_le (by omega)
        have hge : ¬ (j : Int) < (n : Int) := by omega
        rw [et]
        clear e et hlt hj
        go_wp2
        go_ret
        exact ⟨rfl, hb⟩
end Go.Proofs.Ytefbhcpcbolbiaa
