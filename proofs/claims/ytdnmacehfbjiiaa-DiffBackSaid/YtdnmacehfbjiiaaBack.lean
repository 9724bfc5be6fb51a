/- Changes the other way round, counted, told by their paths: contracts (packages diff, sumpref01). -/
import Derived.Test.YtdnmacehfbjiiaaBackP
import Derived.Deep.CutBlock
namespace Go.Proofs.Ytdnmacehfbjiiaa
open Go.RowKit Go.Maps Go.Sort Go.Shelf

theorem rowC_some {w : World} {B n c : Nat} {X : Option Addr} {cs : List Ch} (h : w.ownsRow B 33 2 (.slice X n c) n (cellsC cs)) (hn : 0 < n) : ∃ g, X = some ⟨g, 0, none⟩ := by
  rcases h.2 with ⟨h', h0⟩ | ⟨g', cap', cur, h', _⟩
  · omega
  · cases h'; exact ⟨g', rfl⟩
set_option maxRecDepth 100000 in
set_option maxHeartbeats 4000000 in
theorem back_any {A : Option Addr} {n : Nat} {cs : List Ch} {w : World} (cap : Nat) (h : Changes w A n cs) (hm : n ≤ 2000) : Calls Try.prog 12 #[.slice A n cap] w (RowC w.heap.size (back cs) w) := by
  have hl := h.1
  have CC := Lib.hid (clone_any cap h hm)
  clear h
  subst hl
  go_enter Try.func12, Try.ntmps12
  go_wp2_with (go_at_call 21; refine (CC.out).mono ?_; rintro e w1 ⟨X, cx, rfl, hown, hb⟩; have HO := Lib.hid hown; have HB := Lib.hid hb; clear hown hb CC)
  go_loopw [10] (fun u wr => ∃ j : Nat, j ≤ cs.length ∧ u = .int .i64 j ∧ wr.ownsRow w.heap.size 33 2 (.slice X cs.length cx) cs.length (cellsC (mixC cs j)) ∧ Below w.heap.size w wr) (fun u _ => cs.length - (intOf u).toNat)
  case atStart => exact ⟨0, Nat.zero_le _, rfl, by rw [mixC_zero]; exact HO.out, HB.out⟩
  case round =>
    obtain ⟨j, hj, rfl, hown, hb⟩ := hrel
    by_cases hlt : j < cs.length
    · obtain ⟨g, rfl⟩ := rowC_some hown (by omega)
      have hx : cs[j]? = some cs[j] := List.getElem?_eq_getElem hlt
      generalize hxx : cs[j] = x at hx
      clear hxx
      have hmx := mixC_at hx
      have hml := mixC_len cs j
      obtain ⟨hmj, hmv⟩ := List.getElem?_eq_some_iff.1 hmx
      have d := cellsC_at (mixC cs j) j hmj
      rw [hmv] at d
      have c0 : wr.cell? ⟨g, j * 2, none⟩ = some (encStr x.1) := by rw [hown.cellAt _ (by omega)]; exact d.1
      have c1 : wr.cell? ⟨g, j * 2 + 1, none⟩ = some (.int .i64 x.2) := by rw [hown.cellAt _ (by omega)]; exact d.2
      have hg := hown.lt g rfl
      have hgl := hg.2
      have hown1 := hown.alloc (.cells #[encStr x.1, .int .i64 x.2] 33)
      have hfr := hown.frozenAt (j * 2 + 1)
      have hst := hown.stored (j * 2 + 1) (.int .i64 (bkK x.2))
      rw [cellsC_set hx] at hst
      have hb1 : Below w.heap.size w (wr.alloc (.cells #[encStr x.1, .int .i64 x.2] 33)) := hb.alloc hb.size _
      have hb2' := hb.grown hst.2 hb.size (fun k hk => by cases hk; exact hg.1)
      have hb2 := hb2'.alloc hb2'.size (.cells #[encStr x.1, .int .i64 x.2] 33)
      have HS := Lib.hid (hst.1.alloc (.cells #[encStr x.1, .int .i64 x.2] 33))
      have HB2 := Lib.hid hb2
      have HB1 := Lib.hid hb1
      have HO1 := Lib.hid hown1
      have HX := Lib.hid hx
      clear hown hb hx hmx hml hmj hmv d hown1 hst hb1 hb2 hb2' HO HB
      obtain ⟨p, k⟩ := x
      dsimp only at *
      by_cases hk1 : k = 1
      · subst hk1
        have e : bkK 1 = 2 := rfl
        rw [e] at HS HB2
        clear e HB1 HO1
        go_wp2
        go_roundw
        case rel => exact ⟨j + 1, by omega, by go_num, HS.out, HB2.out⟩
        case measure => simp [intOf]; omega
      · by_cases hk2 : k = 2
        · subst hk2
          have e : bkK 2 = 1 := rfl
          rw [e] at HS HB2
          clear e HB1 HO1 hk1
          go_wp2
          go_roundw
          case rel => exact ⟨j + 1, by omega, by go_num, HS.out, HB2.out⟩
          case measure => simp [intOf]; omega
        · have e := Lib.hid (show bkK k = k from by unfold bkK; rw [if_neg hk1, if_neg hk2])
          have q1 : (k == 1) = false := by simp [hk1]
          have q2 : (k == 2) = false := by simp [hk2]
          clear HS HB2 hk1 hk2
          go_wp2
          go_roundw
          case rel => exact ⟨j + 1, by omega, by go_num, by rw [mixC_same HX.out e.out]; exact HO1.out, HB1.out⟩
          case measure => simp [intOf]; omega
    · obtain rfl : j = cs.length := by omega
      rw [mixC_all] at hown
      have HO2 := Lib.hid hown
      have HB2 := Lib.hid hb
      clear hown hb
      go_wp2
      go_ret
      exact RowC.of (back_len cs).symm HO2.out HB2.out
end Go.Proofs.Ytdnmacehfbjiiaa
