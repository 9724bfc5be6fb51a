/- Whether numbers are alike; whether a table is right; an extent of deeds appended to another one. -/
import Derived.Test.YtcleabnbdfhmnaaDeeds
import Derived.ArgAppend
import Derived.Deep.Upon
namespace Go.Proofs.Ytcleabnbdfhmnaa
open Go.RowKit Go.Maps Go.Sort Go.Shelf

set_option maxRecDepth 100000 in
set_option maxHeartbeats 4000000 in
theorem sameints_any {A B : Option Addr} {n m : Nat} {xs ys : List Int} {w : World} (cap cap2 : Nat) (h : Ints w A n xs) (h2 : Ints w B m ys) (hm : n ≤ maxLen) (hm2 : m ≤ maxLen) : Calls Try.prog 13 #[.slice A n cap, .slice B m cap2] w fun e w' => e = .returned (.bool (decide (xs = ys))) ∧ Below w.heap.size w w' := by
  unfold maxLen at hm hm2
  have H := Lib.hid h
  have H2 := Lib.hid h2
  have hl : xs.length = n := h.1
  have hl2 : ys.length = m := h2.1
  clear h h2
  by_cases he : n = m
  · subst he
    go_enter Try.func13, Try.ntmps13
    go_wp2
    go_loopw [13] (fun c wr => ∃ j : Nat, j ≤ n ∧ c = .int .i64 j ∧ (∀ k, k < j → xs[k]? = ys[k]?) ∧ Below w.heap.size w wr) (fun c _ => n - (intOf c).toNat)
    case atStart => exact ⟨0, Nat.zero_le _, rfl, fun k hk => absurd hk (Nat.not_lt_zero _), Below.refl _ _⟩
    case round =>
      obtain ⟨j, hj, rfl, hall, hb⟩ := hrel
      have Hall := Lib.hid hall
      clear hall
      by_cases hlt : j < n
      · obtain ⟨b, off, rfl, hbl, x, hx, c0⟩ := (H.out.below hb).at hlt
        obtain ⟨b2, off2, rfl, hbl2, y, hy, d0⟩ := (H2.out.below hb).at hlt
        have Hx := Lib.hid hx
        have Hy := Lib.hid hy
        have hk0 : (0 : Int) ≤ (j : Int) := by omega
        have hk1 : (j : Int) < (n : Int) := by omega
        clear hx hy
        by_cases e0 : x = y
        · subst e0
          have hs : ∀ k, k < j + 1 → xs[k]? = ys[k]? := by
            intro k hk
            rcases Nat.lt_succ_iff_lt_or_eq.1 hk with h1 | rfl
            · exact Hall.out k h1
            · rw [Hx.out, Hy.out]
          have Hs := Lib.hid hs
          clear hs
          go_upto_region 6 with fail
          go_region_held3 (fun w' => w'.cell? ⟨b, off + j, none⟩ = some (.int .i64 x) ∧ w'.cell? ⟨b2, off2 + j, none⟩ = some (.int .i64 x))
            (refine ⟨?_, ?_⟩ <;> go_keep)
            (fail)
          go_wp2
          go_roundw
          case rel => exact ⟨j + 1, by omega, by go_num, Hs.out, hb.drew⟩
          case measure => simp [intOf]; omega
        · have hne : decide (xs = ys) = false := by
            rw [decide_eq_false_iff_not]; intro h; subst h
            have h1 := Hx.out
            rw [Hy.out] at h1
            cases h1
            exact e0 rfl
          have Hne := Lib.hid hne
          clear hne
          go_upto_region 6 with fail
          go_region_held3 (fun w' => w'.cell? ⟨b, off + j, none⟩ = some (.int .i64 x) ∧ w'.cell? ⟨b2, off2 + j, none⟩ = some (.int .i64 y))
            (refine ⟨?_, ?_⟩ <;> go_keep)
            (fail)
          go_wp2
          go_ret
          exact ⟨by rw [Hne.out]; rfl, hb.drew⟩
      · have e : j = n := by omega
        have hge : ¬ (j : Int) < (n : Int) := by omega
        have heq : decide (xs = ys) = true := by
          rw [decide_eq_true_iff]
          apply List.ext_getElem?
          intro k
          by_cases hk : k < j
          · exact Hall.out k hk
          · rw [List.getElem?_eq_none (by omega), List.getElem?_eq_none (by omega)]
        have Heq := Lib.hid heq
        clear e hlt hj heq
        go_wp2
        go_ret
        exact ⟨by rw [Heq.out]; rfl, hb⟩
  · have hne : decide (xs = ys) = false := by rw [decide_eq_false_iff_not]; intro h; subst h; omega
    have Hne := Lib.hid hne
    have hn1 : ((n : Int) != (m : Int)) = true := by rw [bne_iff_ne]; omega
    clear hne he
    go_enter Try.func13, Try.ntmps13
    go_wp2
    go_ret
    exact ⟨by rw [Hne.out]; rfl, Below.refl _ _⟩

/-- Whether a table is right. -/
def rightT (xs : List L) : Bool := xs.all (fun y => !(y.al && decide (1 < (usL xs y.ino).length)))
theorem lone_right {xs : List L} (h : Lone xs) (hr : Rising xs) : rightT xs = true := by
  unfold rightT
  rw [List.all_eq_true]
  intro y hy
  cases ha : y.al with
  | false => rfl
  | true =>
    have := lone_few h hr hy ha
    simp; omega

set_option maxRecDepth 100000 in
set_option maxHeartbeats 4000000 in
theorem rightT_any {w : World} {t b n : Nat} {xs : List L} (h : TabIs w t b n xs) (hR : rightT xs = true) : Calls Try.prog 16 #[.pointer (some ⟨t, 0, none⟩)] w fun e w' => e = .returned (.bool true) ∧ Below w.heap.size w w' := by
  have H := Lib.hid h
  have CW := Lib.hid (who_any h)
  have hf := h.few
  have hl := h.len
  have HR := Lib.hid hR
  clear h hR
  go_enter Try.func16, Try.ntmps16
  go_wp2_with (go_at_call 28; refine (CW.out).mono ?_; rintro e w2 ⟨v2, rfl, hown2, hb2⟩; rw [List.length_map] at hown2; obtain ⟨X, c, rfl⟩ := own_slice hown2; have HK := Lib.hid (ints_of_nums (List.length_map _) hown2); clear hown2)
  go_loopw [9] (fun k wr => ∃ j : Nat, j ≤ xs.length ∧ k = .int .i64 j ∧ Below w2.heap.size w2 wr) (fun k _ => xs.length - (intOf k).toNat)
  case atStart => exact ⟨0, Nat.zero_le _, rfl, Below.refl _ _⟩
  case round =>
    obtain ⟨j, hj, rfl, hb⟩ := hrel
    have hbw := hb2.trans (hb.mono hb2.size)
    by_cases hlt : j < xs.length
    · obtain ⟨g, off, rfl, hgl, x, hx, c0⟩ := (HK.out.below hb).at hlt
      have hy : xs[j]? = some xs[j] := List.getElem?_eq_getElem hlt
      generalize xs[j] = y at hy
      have hxy : x = y.who := by
        rw [List.getElem?_map, hy] at hx; cases hx; rfl
      subst hxy
      have hym := List.mem_of_getElem? hy
      have hT := H.out.below hbw
      have hlook := (hT.map.look (H.out.wf y hym)).1
      rw [findL_of H.out.ris hym] at hlook
      have hc := hT.cell
      have hba : Below wr.heap.size wr (wr.alloc (.cells #[.int .i64 y.ino, .bool y.al] 54)) := (Below.refl _ _).alloc (Nat.le_refl _) _
      have hbW := hb.trans (hba.mono hb.size)
      have CU := Lib.hid (users_any (hT.below hba) y.ino)
      have hok := HR.out
      unfold rightT at hok
      rw [List.all_eq_true] at hok
      have hok := hok y hym
      clear hx hy hym hT
      cases hya : y.al with
      | false =>
        rw [hya] at hlook hba hbW CU
        clear hok
        go_wp2
        go_roundw
        case rel => exact ⟨j + 1, by omega, by go_num, hbW⟩
        case measure => simp [intOf]; omega
      | true =>
        rw [hya] at hlook hba hbW CU hok
        have hone : (usL xs y.ino).length ≤ 1 := by simp at hok; omega
        clear hok
        go_wp2_with (go_at_call 14; refine (CU.out).mono ?_; rintro e w4 ⟨v4, rfl, hown4, hb4⟩; obtain ⟨X4, c4, rfl⟩ := own_slice hown4; have hbV := hbW.trans (hb4.mono hbW.size); clear hown4 hb4)
        go_roundw
        case rel => exact ⟨j + 1, by omega, by go_num, hbV⟩
        case measure => simp [intOf]; omega
    · have hge : ¬ (j : Int) < (xs.length : Int) := by omega
      clear hlt hj
      go_wp2
      go_ret
      exact ⟨rfl, hbw⟩
end Go.Proofs.Ytcleabnbdfhmnaa
