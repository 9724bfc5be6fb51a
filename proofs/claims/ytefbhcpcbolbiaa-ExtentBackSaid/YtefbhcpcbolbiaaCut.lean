/- Cut and Put, walked: contracts, of right extents. -/
import Derived.Test.YtefbhcpcbolbiaaPuts
namespace Go.Proofs.Ytefbhcpcbolbiaa
open Go.RowKit

set_option maxRecDepth 100000 in
set_option maxHeartbeats 4000000 in
theorem cut_any {A : Option Addr} {m : Nat} {xs : List E} {w : World} (cap : Nat) (n : Int) (h : Exts w A m xs) (hm : m ≤ 400) (hr : rightB xs = true) (hn : 0 ≤ n ∧ n < 1048576) : Calls Try.prog 20 #[.slice A m cap, .int .i64 n] w (RowOf w.heap.size (cutL xs n) w) := by
  have CR := right_any cap h (by unfold maxLen; omega)
  rw [hr] at CR
  have CR := Lib.hid CR
  have H := Lib.hid h
  have hl : xs.length = m := h.1
  have CA := Lib.hid (add_any w.heap.size)
  have CB := Lib.hid below_any
  unfold ev at CA CB
  obtain ⟨hn0, hn1⟩ := hn
  clear h hr
  go_enter Try.func20, Try.ntmps20
  go_wp2_with (first | (go_at_call 14; refine (CR.out).mono ?_; rintro e w2 ⟨rfl, hb2⟩))
  go_loopw [5, 23] (fun v i wr => ∃ j : Nat, j ≤ m ∧ i = .int .i64 j ∧ wr.ownsRow w.heap.size 29 3 v (addsN (belowE · n) [] xs j).length (cellsE (addsN (belowE · n) [] xs j)) ∧ Below w.heap.size w wr) (fun _ i _ => m - (intOf i).toNat)
  case atStart => exact ⟨0, Nat.zero_le _, rfl, World.ownsRow_nil _ _ _ _, hb2⟩
  case round =>
    obtain ⟨j, hj, rfl, hown, hb⟩ := hrel
    by_cases hlt : j < m
    · obtain ⟨b, off, rfl, hbl, x, hx, c0, c1, c2⟩ := (H.out.below hb).at hlt
      have hlen := addsN_len (belowE · n) [] xs j
      rw [List.length_nil, Nat.zero_add] at hlen
      have hst := addsN_at (g := (belowE · n)) (s := []) hx
      generalize addsN (belowE · n) [] xs j = out at *
      have Hst := Lib.hid hst
      have Hown := Lib.hid hown
      have hba : Below w.heap.size w (wr.alloc (.cells #[.int .i64 x.f, .int .i64 x.l, .int .i64 x.p] 29)) := hb.alloc hb.size _
      clear hx hst hown
      go_wp2_with (first
        | (go_at_call 26; refine (CB.out x n _).mono ?_; rintro e w3 ⟨rfl, hb3⟩; have hbB := hba.trans (hb3.mono hba.size); have Hown3 := Lib.hid ((Hown.out.alloc (.cells #[.int .i64 x.f, .int .i64 x.l, .int .i64 x.p] 29)).belowK hb3); clear hb3)
        | (go_at_call 21; refine (CA.out out _ (belowE x n) _ Hown3.out hbB.size (by omega)).mono ?_; rintro e w4 ⟨v4, rfl, hown4, hb4⟩; have Hown4 := Lib.hid hown4; have hbC := hbB.trans hb4; clear hown4 hb4))
      go_roundw
      case rel => exact ⟨j + 1, by omega, by go_num, by rw [Hst.out]; exact Hown4.out, hbC⟩
      case measure => simp [intOf]; omega
    · have e : j = m := by omega
      have hge : ¬ (j : Int) < (m : Int) := by omega
      have Hown := Lib.hid hown
      clear hlt hj hown
      go_wp2
      go_ret
      refine ⟨_, rfl, ?_, hb⟩
      unfold cutL
      rw [hl, ← e]
      exact Hown.out

set_option maxRecDepth 100000 in
set_option maxHeartbeats 4000000 in
theorem put_any {A : Option Addr} {m : Nat} {xs : List E} {w : World} (cap : Nat) (i p : Int) (h : Exts w A m xs) (hm : m ≤ 400) (hr : rightB xs = true) (hi : 0 ≤ i ∧ i < 1048576) (hp : 0 ≤ p ∧ p < 1048576) : Calls Try.prog 17 #[.slice A m cap, .int .i64 i, .int .i64 p] w (RowOf w.heap.size (putL xs i p) w) := by
  have CR := right_any cap h (by unfold maxLen; omega)
  rw [hr] at CR
  have CR := Lib.hid CR
  have CC := Lib.hid (fun (w' : World) (hb : Below w.heap.size w w') => cut_any cap i (h.below hb) hm hr hi)
  have H := Lib.hid h
  have hl : xs.length = m := h.1
  have CA := Lib.hid (add_any w.heap.size)
  have CB := Lib.hid above_any
  unfold ev at CA CB
  obtain ⟨hi0, hi1⟩ := hi
  obtain ⟨hp0, hp1⟩ := hp
  have hcl := cutL_len xs i
  have hsl := putS_len xs i p
  clear h hr
  by_cases hpp : 0 < p
  · have hs : putS xs i p = addE (cutL xs i) ⟨i, 1, p⟩ := if_pos hpp
    have Hs := Lib.hid hs
    clear hs
    go_enter Try.func17, Try.ntmps17
    go_wp2_with (first
      | (go_at_call 14; refine (CR.out).mono ?_; rintro e w2 ⟨rfl, hb2⟩)
      | (go_at_call 20; refine (CC.out _ hb2).mono ?_; rintro e w3 ⟨v3, rfl, hown3, hb3⟩; have hbA := hb2.trans (hb3.mono hb2.size); have Hown3 := Lib.hid (hown3.mono hb2.size); clear hown3 hb3)
      | (go_at_call 21; refine (CA.out (cutL xs i) _ ⟨i, 1, p⟩ _ Hown3.out hbA.size (by omega)).mono ?_; rintro e w4 ⟨v4, rfl, hown4, hb4⟩; have hbB := hbA.trans hb4; rw [← Hs.out] at hown4; have Hown4 := Lib.hid hown4; clear hown4 hb4))
    go_loopw [7, 43] (fun v c wr => ∃ j : Nat, j ≤ m ∧ c = .int .i64 j ∧ wr.ownsRow w.heap.size 29 3 v (addsN (aboveE · (i + 1)) (putS xs i p) xs j).length (cellsE (addsN (aboveE · (i + 1)) (putS xs i p) xs j)) ∧ Below w.heap.size w wr) (fun _ c _ => m - (intOf c).toNat)
    case atStart => exact ⟨0, Nat.zero_le _, rfl, Hown4.out, hbB⟩
    case round =>
      obtain ⟨j, hj, rfl, hown, hb⟩ := hrel
      by_cases hlt : j < m
      · obtain ⟨b, off, rfl, hbl, x, hx, c0, c1, c2⟩ := (H.out.below hb).at hlt
        have hlen := addsN_len (aboveE · (i + 1)) (putS xs i p) xs j
        have hst := addsN_at (g := (aboveE · (i + 1))) (s := putS xs i p) hx
        generalize addsN (aboveE · (i + 1)) (putS xs i p) xs j = out at *
        have Hst := Lib.hid hst
        have Hown := Lib.hid hown
        have hba : Below w.heap.size w (wr.alloc (.cells #[.int .i64 x.f, .int .i64 x.l, .int .i64 x.p] 29)) := hb.alloc hb.size _
        clear hx hst hown Hs hpp Hown4
        go_wp2_with (first
          | (go_at_call 25; refine (CB.out x (i + 1) _).mono ?_; rintro e w5 ⟨rfl, hb5⟩; have hbC := hba.trans (hb5.mono hba.size); have Hown5 := Lib.hid ((Hown.out.alloc (.cells #[.int .i64 x.f, .int .i64 x.l, .int .i64 x.p] 29)).belowK hb5); clear hb5)
          | (go_at_call 21; refine (CA.out out _ (aboveE x (i + 1)) _ Hown5.out hbC.size (by omega)).mono ?_; rintro e w6 ⟨v6, rfl, hown6, hb6⟩; have Hown6 := Lib.hid hown6; have hbD := hbC.trans hb6; clear hown6 hb6))
        go_roundw
        case rel => exact ⟨j + 1, by omega, by go_num, by rw [Hst.out]; exact Hown6.out, hbD⟩
        case measure => simp [intOf]; omega
      · have e : j = m := by omega
        have hge : ¬ (j : Int) < (m : Int) := by omega
        have Hown := Lib.hid hown
        clear hlt hj hown
        go_wp2
        go_ret
        refine ⟨_, rfl, ?_, hb⟩
        unfold putL
        rw [hl, ← e]
        exact Hown.out
  · have hs : putS xs i p = cutL xs i := if_neg hpp
    have Hs := Lib.hid hs
    clear hs
    go_enter Try.func17, Try.ntmps17
    go_wp2_with (first
      | (go_at_call 14; refine (CR.out).mono ?_; rintro e w2 ⟨rfl, hb2⟩)
      | (go_at_call 20; refine (CC.out _ hb2).mono ?_; rintro e w3 ⟨v4, rfl, hown4, hb3⟩; have hbB := hb2.trans (hb3.mono hb2.size); rw [← Hs.out] at hown4; have Hown4 := Lib.hid (hown4.mono hb2.size); clear hown4 hb3))
    go_loopw [7, 43] (fun v c wr => ∃ j : Nat, j ≤ m ∧ c = .int .i64 j ∧ wr.ownsRow w.heap.size 29 3 v (addsN (aboveE · (i + 1)) (putS xs i p) xs j).length (cellsE (addsN (aboveE · (i + 1)) (putS xs i p) xs j)) ∧ Below w.heap.size w wr) (fun _ c _ => m - (intOf c).toNat)
    case atStart => exact ⟨0, Nat.zero_le _, rfl, Hown4.out, hbB⟩
    case round =>
      obtain ⟨j, hj, rfl, hown, hb⟩ := hrel
      by_cases hlt : j < m
      · obtain ⟨b, off, rfl, hbl, x, hx, c0, c1, c2⟩ := (H.out.below hb).at hlt
        have hlen := addsN_len (aboveE · (i + 1)) (putS xs i p) xs j
        have hst := addsN_at (g := (aboveE · (i + 1))) (s := putS xs i p) hx
        generalize addsN (aboveE · (i + 1)) (putS xs i p) xs j = out at *
        have Hst := Lib.hid hst
        have Hown := Lib.hid hown
        have hba : Below w.heap.size w (wr.alloc (.cells #[.int .i64 x.f, .int .i64 x.l, .int .i64 x.p] 29)) := hb.alloc hb.size _
        clear hx hst hown Hs hpp Hown4
        go_wp2_with (first
          | (go_at_call 25; refine (CB.out x (i + 1) _).mono ?_; rintro e w5 ⟨rfl, hb5⟩; have hbC := hba.trans (hb5.mono hba.size); have Hown5 := Lib.hid ((Hown.out.alloc (.cells #[.int .i64 x.f, .int .i64 x.l, .int .i64 x.p] 29)).belowK hb5); clear hb5)
          | (go_at_call 21; refine (CA.out out _ (aboveE x (i + 1)) _ Hown5.out hbC.size (by omega)).mono ?_; rintro e w6 ⟨v6, rfl, hown6, hb6⟩; have Hown6 := Lib.hid hown6; have hbD := hbC.trans hb6; clear hown6 hb6))
        go_roundw
        case rel => exact ⟨j + 1, by omega, by go_num, by rw [Hst.out]; exact Hown6.out, hbD⟩
        case measure => simp [intOf]; omega
      · have e : j = m := by omega
        have hge : ¬ (j : Int) < (m : Int) := by omega
        have Hown := Lib.hid hown
        clear hlt hj hown
        go_wp2
        go_ret
        refine ⟨_, rfl, ?_, hb⟩
        unfold putL
        rw [hl, ← e]
        exact Hown.out
end Go.Proofs.Ytefbhcpcbolbiaa
