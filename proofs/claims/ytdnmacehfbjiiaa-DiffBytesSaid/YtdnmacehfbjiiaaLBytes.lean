/- The law DiffBytes, walked (package sumplaw41). -/
import Derived.Test.YtdnmacehfbjiiaaWake
import Derived.Test.YtdnmacehfbjiiaaBytes
import Derived.Test.YtdnmacehfbjiiaaKind
namespace Go.Proofs.Ytdnmacehfbjiiaa
open Go.RowKit Go.Maps Go.Sort Go.Shelf

set_option maxRecDepth 100000 in
set_option maxHeartbeats 16000000 in
theorem lbytes_walk {w : World} {A A2 : Option Addr} {n m : Nat} {xs ys : List UInt8} (c c2 : Nat) (h : Bytes w A n xs) (h2 : Bytes w A2 m ys) (hn : n ≤ maxLen) (hm : m ≤ maxLen) : Calls Try.prog 4 #[.slice A n c, .slice A2 m c2] w fun e w' => e = .returned (.bool true) ∧ Below w.heap.size w w' := by
  have H := Lib.hid h
  have H2 := Lib.hid h2
  have CA := Lib.hid (awake_any w)
  have hl1 := h.1
  have hl2 := h2.1
  unfold maxLen at hn hm
  clear h h2
  by_cases hn3 : 300 < n
  · have hn3' : (300 : Int) < n := by omega
    go_enter Try.func4, Try.ntmps4
    go_wp2_with (go_at_call 6; refine (CA.out).mono ?_; rintro e w1 ⟨rfl, hb1⟩; have HB1 := Lib.hid hb1; clear hb1)
    go_ret
    exact ⟨rfl, HB1.out⟩
  · have hn3' : ¬ (300 : Int) < n := by omega
    by_cases hm3 : 300 < m
    · have hm3' : (300 : Int) < m := by omega
      go_enter Try.func4, Try.ntmps4
      go_wp2_with (go_at_call 6; refine (CA.out).mono ?_; rintro e w1 ⟨rfl, hb1⟩; have HB1 := Lib.hid hb1; clear hb1)
      go_ret
      exact ⟨rfl, HB1.out⟩
    · have hm3' : ¬ (300 : Int) < m := by omega
      go_enter Try.func4, Try.ntmps4
      go_wp2_with (go_at_call 6; refine (CA.out).mono ?_; rintro e w1 ⟨rfl, hb1⟩; have HB1 := Lib.hid hb1; clear hb1)
      go_loopw [5] (fun v wr => ∃ j : Nat, j ≤ min n m ∧ v = .int .i64 j ∧ (∀ k, k < j → xs[k]? = ys[k]?) ∧ Below w.heap.size w wr) (fun v _ => min n m - (intOf v).toNat)
      case atStart => exact ⟨0, Nat.zero_le _, rfl, fun k hk => absurd hk (by omega), HB1.out⟩
      case round =>
        obtain ⟨j, hj, rfl, hall, hb⟩ := hrel
        have HB := Lib.hid hb
        have HALL := Lib.hid hall
        clear hb hall
        go_upto_region 6 with fail
        go_cut [40] (fun v wx => Below w.heap.size w wx ∧ (v = .bool true ∧ j < min n m ∧ xs[j]? = ys[j]? ∨ v = .bool false ∧ AtIs xs ys j))
        case first =>
          by_cases h1 : j < n
          · have h1' : (j : Int) < n := by omega
            by_cases h2 : j < m
            · have h2' : (j : Int) < m := by omega
              obtain ⟨g, off, rfl, hgl, x, hx, c0⟩ := (H.out.below HB.out).at h1
              obtain ⟨g2, off2, rfl, hgl2, y, hy, d0⟩ := (H2.out.below HB.out).at h2
              have h0 : (0 : Int) ≤ j := by omega
              have HX := Lib.hid hx
              have HY := Lib.hid hy
              clear hx hy
              by_cases e : x = y
              · have hq : ((x.toNat : Int) == (y.toNat : Int)) = true := by rw [e]; simp
                have HE := Lib.hid e
                clear e
                go_quiet (fail)
                go_wp2
                go_meet
                exact ⟨by first | exact drew_below HB.out _ | exact HB.out.drew, .inl ⟨rfl, by omega, by rw [HX.out, HY.out, HE.out]⟩⟩
              · have hq : ((x.toNat : Int) == (y.toNat : Int)) = false := by
                  have hne : (x.toNat : Int) ≠ (y.toNat : Int) := fun h => e (UInt8.toNat_inj.1 (by omega))
                  simpa using hne
                have HA := Lib.hid (show AtIs xs ys j from ⟨by rw [hl1, hl2]; omega, HALL.out, .inr (by rw [HX.out, HY.out]; simpa using e)⟩)
                clear e
                go_quiet (fail)
                go_wp2
                go_meet
                exact ⟨by first | exact drew_below HB.out _ | exact HB.out.drew, .inr ⟨rfl, HA.out⟩⟩
            · have h2' : ¬ (j : Int) < m := by omega
              have HA := Lib.hid (show AtIs xs ys j from ⟨by rw [hl1, hl2]; omega, HALL.out, .inl (by rw [hl1, hl2]; omega)⟩)
              go_quiet (fail)
              go_wp2
              go_meet
              exact ⟨by first | exact drew_below HB.out _ | exact HB.out.drew, .inr ⟨rfl, HA.out⟩⟩
          · have h1' : ¬ (j : Int) < n := by omega
            have HA := Lib.hid (show AtIs xs ys j from ⟨by rw [hl1, hl2]; omega, HALL.out, .inl (by rw [hl1, hl2]; omega)⟩)
            go_quiet (fail)
            go_wp2
            go_meet
            exact ⟨by first | exact drew_below HB.out _ | exact HB.out.drew, .inr ⟨rfl, HA.out⟩⟩
        case rest =>
          obtain ⟨hbx, ⟨rfl, hlt, heq⟩ | ⟨rfl, hat⟩⟩ := hcut
          · have HBX := Lib.hid hbx
            have HN := Lib.hid (show ∀ k, k < j + 1 → xs[k]? = ys[k]? from fun k hk => by
              by_cases ek : k = j
              · rw [ek]; exact heq
              · exact HALL.out k (by omega))
            clear hbx heq
            go_wp2
            go_roundw
            case rel => exact ⟨j + 1, by omega, by go_num, HN.out, HBX.out⟩
            case measure => simp [intOf]; omega
          · have HBX := Lib.hid hbx
            have HAT := Lib.hid hat
            clear hbx hat
            go_wp2
            go_loopw [6, 7] (fun v u wr => ∃ i : Nat, i ≤ max n m ∧ u = .int .i64 i ∧ v = .int .i64 (dN xs ys i : Int) ∧ Below w.heap.size w wr) (fun _ u _ => max n m - (intOf u).toNat)
            case atStart => exact ⟨0, Nat.zero_le _, rfl, rfl, HBX.out⟩
            case round =>
              obtain ⟨i, hi, rfl, rfl, hb⟩ := hrel
              have HB2 := Lib.hid hb
              have hdl := dN_le xs ys i
              clear hb
              by_cases hlt : i < max n m
              · have h0 : (0 : Int) ≤ i := by omega
                have HSS := Lib.hid (show dN xs ys (i + 1) = dN xs ys i + if xs[i]? = ys[i]? then 0 else 1 from rfl)
                generalize dN xs ys i = q at *
                by_cases h1 : i < n
                · have h1' : (i : Int) < n := by omega
                  have h1x : ¬ (n : Int) ≤ i := by omega
                  by_cases h2 : i < m
                  · have h2' : (i : Int) < m := by omega
                    have h2x : ¬ (m : Int) ≤ i := by omega
                    obtain ⟨g, off, rfl, hgl, x, hx, c0⟩ := (H.out.below HB2.out).at h1
                    obtain ⟨g2, off2, rfl, hgl2, y, hy, d0⟩ := (H2.out.below HB2.out).at h2
                    by_cases e : x = y
                    · have hq : ((x.toNat : Int) != (y.toNat : Int)) = false := by rw [e]; simp
                      have HS := Lib.hid (show dN xs ys (i + 1) = q from by rw [HSS.out, hx, hy, if_pos (by rw [e])]; rfl)
                      clear hx hy e HSS
                      go_upto_region 11 with fail
                      go_quiet (fail)
                      go_wp2
                      go_roundw
                      case rel => exact ⟨i + 1, by omega, by go_num, by rw [HS.out], by first | exact drew_below HB2.out _ | exact HB2.out.drew⟩
                      case measure => simp [intOf]; omega
                    · have hne : (x.toNat : Int) ≠ (y.toNat : Int) := fun h => e (UInt8.toNat_inj.1 (by omega))
                      have hq : ((x.toNat : Int) != (y.toNat : Int)) = true := by simpa using hne
                      have HS := Lib.hid (show dN xs ys (i + 1) = q + 1 from by rw [HSS.out, hx, hy, if_neg (by simpa using e)])
                      clear hx hy e HSS
                      go_upto_region 11 with fail
                      go_quiet (fail)
                      go_wp2
                      go_roundw
                      case rel => exact ⟨i + 1, by omega, by go_num, by rw [HS.out]; go_num, by first | exact drew_below HB2.out _ | exact HB2.out.drew⟩
                      case measure => simp [intOf]; omega
                  · have h2' : ¬ (i : Int) < m := by omega
                    have h2x : (m : Int) ≤ i := by omega
                    have HS := Lib.hid (show dN xs ys (i + 1) = q + 1 from by rw [HSS.out, List.getElem?_eq_none (l := ys) (by omega), if_neg (by rw [List.getElem?_eq_none_iff]; omega)])
                    clear HSS
                    go_upto_region 11 with fail
                    go_quiet (fail)
                    go_wp2
                    go_roundw
                    case rel => exact ⟨i + 1, by omega, by go_num, by rw [HS.out]; go_num, by first | exact drew_below HB2.out _ | exact HB2.out.drew⟩
                    case measure => simp [intOf]; omega
                · have h1' : ¬ (i : Int) < n := by omega
                  have h1x : (n : Int) ≤ i := by omega
                  have h2' : (i : Int) < m := by omega
                  have HS := Lib.hid (show dN xs ys (i + 1) = q + 1 from by rw [HSS.out, List.getElem?_eq_none (l := xs) (by omega), if_neg (by rw [eq_comm, List.getElem?_eq_none_iff]; omega)])
                  clear HSS
                  go_upto_region 11 with fail
                  go_quiet (fail)
                  go_wp2
                  go_roundw
                  case rel => exact ⟨i + 1, by omega, by go_num, by rw [HS.out]; go_num, by first | exact drew_below HB2.out _ | exact HB2.out.drew⟩
                  case measure => simp [intOf]; omega
              · obtain rfl : i = max n m := by omega
                have hx1 : ¬ ((max n m : Nat) : Int) < n := by omega
                have hx2 : ¬ ((max n m : Nat) : Int) < m := by omega
                have CB := Lib.hid (fun wr (hb : Below w.heap.size w wr) => bytes_any c c2 (H.out.below hb) (H2.out.below hb) (by omega) (by omega))
                have HZ := Lib.hid (dN_same xs ys)
                rw [hl1, hl2] at HZ
                have HC1 := Lib.hid (fun wr (hb : Below w.heap.size w wr) => str_of c (H.out.below hb))
                have HC2 := Lib.hid (fun wr (hb : Below w.heap.size w wr) => str_of c2 (H2.out.below hb))
                generalize dN xs ys (max n m) = q at *
                by_cases hxy : xs = ys
                · have hq0 : q = 0 := HZ.out.2 hxy
                  have hqb : ((q : Int) == 0) = true := by rw [hq0]; rfl
                  have hxb : (xs == ys) = true := by simpa using hxy
                  clear hxy hq0
                  go_wp2_with (go_at_call 11; refine (CB.out _ HB2.out).mono ?_; rintro e w5 ⟨a, ha, rfl, hb5⟩; obtain rfl := ha.uniq HAT.out; have HB5 := Lib.hid (HB2.out.trans (hb5.mono HB2.out.size)); have k1 := HC1.out _ HB5.out; have k2 := HC2.out _ HB5.out; clear ha hb5)
                  go_ret
                  exact ⟨rfl, HB5.out⟩
                · have hq0 : q ≠ 0 := fun h => hxy (HZ.out.1 h)
                  have hqb : ((q : Int) == 0) = false := by simpa using hq0
                  have hxb : (xs == ys) = false := by simpa using hxy
                  clear hxy hq0
                  go_wp2_with (go_at_call 11; refine (CB.out _ HB2.out).mono ?_; rintro e w5 ⟨a, ha, rfl, hb5⟩; obtain rfl := ha.uniq HAT.out; have HB5 := Lib.hid (HB2.out.trans (hb5.mono HB2.out.size)); have k1 := HC1.out _ HB5.out; have k2 := HC2.out _ HB5.out; clear ha hb5)
                  go_ret
                  exact ⟨rfl, HB5.out⟩
end Go.Proofs.Ytdnmacehfbjiiaa
