/- Whether numbers are alike: a contract. -/
import Derived.Test.YtdnoniolpplgiaaList
import Derived.Deep.RegionHeld3
namespace Go.Proofs.Ytdnoniolpplgiaa
open Go.RowKit Go.Maps Go.Sort Go.Shelf

set_option maxRecDepth 100000 in
set_option maxHeartbeats 4000000 in
theorem sameints_any {A B : Option Addr} {n m : Nat} {xs ys : List Int} {w : World} (cap cap2 : Nat) (h : Ints w A n xs) (h2 : Ints w B m ys) (hm : n ≤ maxLen) (hm2 : m ≤ maxLen) : Calls Try.prog 29 #[.slice A n cap, .slice B m cap2] w fun e w' => e = .returned (.bool (decide (xs = ys))) ∧ Below w.heap.size w w' := by
  unfold maxLen at hm hm2
  have H := Lib.hid h
  have H2 := Lib.hid h2
  have hl : xs.length = n := h.1
  have hl2 : ys.length = m := h2.1
  clear h h2
  by_cases he : n = m
  · subst he
    go_enter Try.func29, Try.ntmps29
    go_wp2
    go_loopw [13] (fun c wr => ∃ j : Nat, j ≤ n ∧ c = .int .i64 j ∧ (∀ k, k < j → xs[k]? = ys[k]?) ∧ Below w.heap.size w wr) (fun c _ => n - (intOf c).toNat)
    case atStart => exact ⟨0, Nat.zero_le _, rfl, fun k hk => absurd hk (Nat.not_lt_zero _), Below.refl _ _⟩
    case round =>
      obtain ⟨j, hj, rfl, hall, hb⟩ := hrel
      have Hall := Lib.hid hall
      clear hall
      by_cases hlt : j < n
      · obtain ⟨b, off, rfl, hbl, x, hx, c0⟩ := (H.out.below hb).at hlt
        obtain ⟨b2, off2, rfl, hbl2, y, hy, d0⟩ := (H2.out.below hb).at hlt
        have Hx := Lib.hid hx
        have Hy := Lib.hid hy
        have hk0 : (0 : Int) ≤ (j : Int) := by omega
        have hk1 : (j : Int) < (n : Int) := by omega
        clear hx hy
        by_cases e0 : x = y
        · subst e0
          have hs : ∀ k, k < j + 1 → xs[k]? = ys[k]? := by
            intro k hk
            rcases Nat.lt_succ_iff_lt_or_eq.1 hk with h1 | rfl
            · exact Hall.out k h1
            · rw [Hx.out, Hy.out]
          have Hs := Lib.hid hs
          clear hs
          go_upto_region 6 with fail
          go_region_held3 (fun w' => w'.cell? ⟨b, off + j, none⟩ = some (.int .i64 x) ∧ w'.cell? ⟨b2, off2 + j, none⟩ = some (.int .i64 x))
            (refine ⟨?_, ?_⟩ <;> go_keep)
            (fail)
          go_wp2
          go_roundw
          case rel => exact ⟨j + 1, by omega, by go_num, Hs.out, hb.drew⟩
          case measure => simp [intOf]; omega
        · have hne : decide (xs = ys) = false := by
            rw [decide_eq_false_iff_not]; intro h; subst h
            have h1 := Hx.out
            rw [Hy.out] at h1
            cases h1
            exact e0 rfl
          have Hne := Lib.hid hne
          clear hne
          go_upto_region 6 with fail
          go_region_held3 (fun w' => w'.cell? ⟨b, off + j, none⟩ = some (.int .i64 x) ∧ w'.cell? ⟨b2, off2 + j, none⟩ = some (.int .i64 y))
            (refine ⟨?_, ?_⟩ <;> go_keep)
            (fail)
          go_wp2
          go_ret
          exact ⟨by rw [Hne.out]; rfl, hb.drew⟩
      · have e : j = n := by omega
        have hge : ¬ (j : Int) < (n : Int) := by omega
        have heq : decide (xs = ys) = true := by
          rw [decide_eq_true_iff]
          apply List.ext_getElem?
          intro k
          by_cases hk : k < j
          · exact Hall.out k hk
          · rw [List.getElem?_eq_none (by omega), List.getElem?_eq_none (by omega)]
        have Heq := Lib.hid heq
        clear e hlt hj heq
        go_wp2
        go_ret
        exact ⟨by rw [Heq.out]; rfl, hb⟩
  · have hne : decide (xs = ys) = false := by rw [decide_eq_false_iff_not]; intro h; subst h; omega
    have Hne := Lib.hid hne
    have hn1 : ((n : Int) != (m : Int)) = true := by rw [bne_iff_ne]; omega
    clear hne he
    go_enter Try.func29, Try.ntmps29
    go_wp2
    go_ret
    exact ⟨by rw [Hne.out]; rfl, Below.refl _ _⟩

end Go.Proofs.Ytdnoniolpplgiaa
