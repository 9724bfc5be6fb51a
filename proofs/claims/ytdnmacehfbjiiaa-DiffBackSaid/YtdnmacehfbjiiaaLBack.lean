/- The law DiffBack, walked (package sumplaw41). -/
import Derived.Test.YtdnmacehfbjiiaaCount
import Derived.Laws.StructEq
import Derived.BigQuiet
namespace Go.Proofs.Ytdnmacehfbjiiaa
open Go.RowKit Go.Maps Go.Sort Go.Shelf

theorem drewB {B : Nat} {a w : World} (h : Below B a w) (n : Nat) : Below B a (w.drewN n) := h.trans ⟨rfl, rfl, rfl, Nat.le_refl _, fun _ _ => rfl⟩
theorem rowC_changes {B : Nat} {cs : List Ch} {w : World} {X : Option Addr} {c : Nat} (h : w.ownsRow B 33 2 (.slice X cs.length c) cs.length (cellsC cs)) : Changes w X cs.length cs := changes_of_row rfl h
theorem back_twice {A : Option Addr} {n : Nat} {cs : List Ch} {w : World} (cap : Nat) (h : Changes w A n (back cs)) (hm : cs.length ≤ 2000) : Calls Try.prog 12 #[.slice A n cap] w (RowC w.heap.size cs w) := by
  have h1 := back_any cap h (by rw [← h.1, back_len]; exact hm)
  rw [back_back] at h1
  exact h1
theorem back_law {fa fb : Str → Option It} {ps ps5 : List Str} (h : PathsOf fb fa ps) (h5 : PathsOf fa fb ps5) : chs fb fa ps = back (chs fa fb ps5) := by
  rw [h5.uniq h.comm]
  exact chs_back h.comm
set_option maxRecDepth 100000 in
set_option maxHeartbeats 16000000 in
theorem lback_walk {w : World} {A A2 A3 : Option Addr} {n m q : Nat} {xs ys : List It} {cs : List Ch} (c c2 c3 : Nat) (h : Items w A n xs) (h2 : Items w A2 m ys) (h3 : Changes w A3 q cs) (hn : n ≤ maxLen) (hm : m ≤ maxLen) (hq : q ≤ maxLen) (k : Int) : Calls Try.prog 5 #[.slice A n c, .slice A2 m c2, .slice A3 q c3, .int .i64 k] w fun e w' => e = .returned (.bool true) ∧ Below w.heap.size w w' := by
  have H := Lib.hid h
  have H2 := Lib.hid h2
  have H3 := Lib.hid h3
  have CA := Lib.hid (awake_any w)
  have hl1 := h.1
  have hl2 := h2.1
  have hl3 := h3.1
  have CF0 := fun w1 (hb : Below w.heap.size w w1) => few_any c (h.below hb) hn
  have CG0 := fun w1 (hb : Below w.heap.size w w1) => few_any c2 (h2.below hb) hm
  unfold maxLen at hq
  clear h h2 h3
  subst hl3
  cases hfb : fewI xs with
  | false =>
    rw [hfb] at CF0
    have CF := Lib.hid CF0
    clear CF0 CG0 hfb
    go_enter Try.func5, Try.ntmps5
    go_wp2_with (first
      | (go_at_call 6; refine (CA.out).mono ?_; rintro e w1 ⟨rfl, hb1⟩; have HB1 := Lib.hid hb1; clear hb1)
      | (go_at_call 7; first | (with_reducible refine (CF.out w1 HB1.out).mono ?_; rintro e w2 ⟨rfl, hb2⟩; have HB2 := Lib.hid (HB1.out.trans (hb2.mono HB1.out.size)); clear hb2)))
    go_ret
    exact ⟨rfl, HB2.out⟩
  | true =>
    rw [hfb] at CF0
    have CF := Lib.hid CF0
    obtain ⟨hfl, _⟩ := fewI_le hfb
    clear CF0 hfb
    cases hgb : fewI ys with
    | false =>
      rw [hgb] at CG0
      have CG := Lib.hid CG0
      clear CG0 hgb
      go_enter Try.func5, Try.ntmps5
      go_wp2_with (first
        | (go_at_call 6; refine (CA.out).mono ?_; rintro e w1 ⟨rfl, hb1⟩; have HB1 := Lib.hid hb1; clear hb1)
        | (go_at_call 7; first | (with_reducible refine (CF.out w1 HB1.out).mono ?_; rintro e w2 ⟨rfl, hb2⟩; have HB2 := Lib.hid (HB1.out.trans (hb2.mono HB1.out.size)); clear hb2) | (with_reducible refine (CG.out w2 HB2.out).mono ?_; rintro e w3 ⟨rfl, hb3⟩; have HB3 := Lib.hid (HB2.out.trans (hb3.mono HB2.out.size)); clear hb3)))
      go_ret
      exact ⟨rfl, HB3.out⟩
    | true =>
      rw [hgb] at CG0
      have CG := Lib.hid CG0
      obtain ⟨hgl, _⟩ := fewI_le hgb
      clear CG0 hgb
      by_cases hp2 : 40 < cs.length
      · have hp3 : (40 : Int) < cs.length := by omega
        go_enter Try.func5, Try.ntmps5
        go_wp2_with (first
          | (go_at_call 6; refine (CA.out).mono ?_; rintro e w1 ⟨rfl, hb1⟩; have HB1 := Lib.hid hb1; clear hb1)
          | (go_at_call 7; first | (with_reducible refine (CF.out w1 HB1.out).mono ?_; rintro e w2 ⟨rfl, hb2⟩; have HB2 := Lib.hid (HB1.out.trans (hb2.mono HB1.out.size)); clear hb2) | (with_reducible refine (CG.out w2 HB2.out).mono ?_; rintro e w3 ⟨rfl, hb3⟩; have HB3 := Lib.hid (HB2.out.trans (hb3.mono HB2.out.size)); clear hb3)))
        go_ret
        exact ⟨rfl, HB3.out⟩
      · have hp3 : ¬ (40 : Int) < cs.length := by omega
        obtain ⟨i0, hi, hz0, hz1, hz2⟩ := info_parts info9
        go_enter Try.func5, Try.ntmps5
        go_wp2_with (first
          | (go_at_call 6; refine (CA.out).mono ?_; rintro e w1 ⟨rfl, hb1⟩; have HB1 := Lib.hid hb1; clear hb1)
          | (go_at_call 7; first | (with_reducible refine (CF.out w1 HB1.out).mono ?_; rintro e w2 ⟨rfl, hb2⟩; have HB2 := Lib.hid (HB1.out.trans (hb2.mono HB1.out.size)); clear hb2) | (with_reducible refine (CG.out w2 HB2.out).mono ?_; rintro e w3 ⟨rfl, hb3⟩; have HB3 := Lib.hid (HB2.out.trans (hb3.mono HB2.out.size)); clear hb3)))
        clear CA CF CG
        go_loopw [9, 10, 35] (fun t v u wr => ∃ j : Nat, j ≤ cs.length ∧ u = .int .i64 j ∧ t = .int .i64 (cntC (cs.take j) k) ∧ wr.ownsRow w.heap.size 9 1 v j ((cs.take j).map (fun (c : Ch) => encStr c.1)) ∧ Below w.heap.size w wr) (fun _ _ u _ => cs.length - (intOf u).toNat)
        case atStart => exact ⟨0, Nat.zero_le _, rfl, rfl, World.ownsRow_nil _ _ _ _, HB3.out⟩
        case round =>
          obtain ⟨j, hj, rfl, rfl, hown, hb⟩ := hrel
          by_cases hlt : j < cs.length
          · obtain ⟨g, off, rfl, hgl, x, hx, c0, c1⟩ := (H3.out.below hb).at hlt
            have hb1 := hb.alloc hb.size (.cells #[encStr x.1, .int .i64 x.2] 33)
            have HB4 := Lib.hid (hb1.alloc hb1.size (.cells #[encStr x.1] 9))
            have HO := Lib.hid ((hown.alloc (.cells #[.string ⟨x.1.toArray⟩, .int .i64 x.2] 33)).alloc (.cells #[.string ⟨x.1.toArray⟩] 9))
            have HX := Lib.hid hx
            have hbs := hb.size
            have hcl : cntC (cs.take j) k ≤ 2000 := by have := cntC_le (cs.take j) k; rw [List.length_take] at this; omega
            clear hb hb1 hown hx
            obtain ⟨p, kk⟩ := x
            dsimp only at *
            by_cases hk : kk = k
            · have e := cntC_yes (cs := cs.take j) (x := (p, kk)) hk
              rw [← take_snoc' HX.out] at e
              have E := Lib.hid e
              have hq' : (kk == k) = true := by simp [hk]
              clear e hk
              go_wp2_with (first
                | (at_builtin; refine wpList_append_own_at _ rfl _ _ 39 rfl w.heap.size 9 i0 (encStr []) 1 16 Try.underlying39 hi hz0 hz1 hz2 rfl (by decide) _ j ((cs.take j).map (fun (c : Ch) => encStr c.1)) rfl HO.out ⟨wr.heap.size + 1, 0, none⟩ 1 1 [.string ⟨p.toArray⟩] rfl rfl ?d1 ?d2 ?d3 ?d4 ?d5 ?_))
              case d1 => have h9 := cell_one_new (wr.alloc (.cells #[.string ⟨p.toArray⟩, .int .i64 kk] 33)) (.string ⟨p.toArray⟩) 9; rw [show (wr.alloc (.cells #[.string ⟨p.toArray⟩, .int .i64 kk] 33)).heap.size = wr.heap.size + 1 from by simp] at h9; exact h9
              case d2 => first | rfl | (intro u hu; rw [List.mem_singleton] at hu; subst hu; rfl)
              case d3 => unfold maxLen; omega
              case d4 => omega
              case d5 => simp; omega
              intro v8 w8 hown8 hgrow8 _ _
              have HB8 := Lib.hid (HB4.out.grown hgrow8 HB4.out.size (fun k hk => (HO.out.lt k hk).1))
              have HO8 := Lib.hid (show w8.ownsRow w.heap.size 9 1 v8 (j + 1) ((cs.take (j + 1)).map (fun (c : Ch) => encStr c.1)) from by rw [take_snoc' HX.out, List.map_append, List.map_take]; exact hown8)
              clear hown8 hgrow8
              go_wp2
              go_roundw
              case rel => exact ⟨j + 1, by omega, by go_num, by rw [E.out]; go_num, HO8.out, HB8.out⟩
              case measure => simp [intOf]; omega
            · have e := cntC_no (cs := cs.take j) (x := (p, kk)) hk
              rw [← take_snoc' HX.out] at e
              have E := Lib.hid e
              have hq' : (kk == k) = false := by simp [hk]
              clear e hk
              go_wp2_with (first
                | (at_builtin; refine wpList_append_own_at _ rfl _ _ 39 rfl w.heap.size 9 i0 (encStr []) 1 16 Try.underlying39 hi hz0 hz1 hz2 rfl (by decide) _ j ((cs.take j).map (fun (c : Ch) => encStr c.1)) rfl HO.out ⟨wr.heap.size + 1, 0, none⟩ 1 1 [.string ⟨p.toArray⟩] rfl rfl ?d6 ?d7 ?d8 ?d9 ?d10 ?_))
              case d6 => have h9 := cell_one_new (wr.alloc (.cells #[.string ⟨p.toArray⟩, .int .i64 kk] 33)) (.string ⟨p.toArray⟩) 9; rw [show (wr.alloc (.cells #[.string ⟨p.toArray⟩, .int .i64 kk] 33)).heap.size = wr.heap.size + 1 from by simp] at h9; exact h9
              case d7 => first | rfl | (intro u hu; rw [List.mem_singleton] at hu; subst hu; rfl)
              case d8 => unfold maxLen; omega
              case d9 => omega
              case d10 => simp; omega
              intro v8 w8 hown8 hgrow8 _ _
              have HB8 := Lib.hid (HB4.out.grown hgrow8 HB4.out.size (fun k hk => (HO.out.lt k hk).1))
              have HO8 := Lib.hid (show w8.ownsRow w.heap.size 9 1 v8 (j + 1) ((cs.take (j + 1)).map (fun (c : Ch) => encStr c.1)) from by rw [take_snoc' HX.out, List.map_append, List.map_take]; exact hown8)
              clear hown8 hgrow8
              go_wp2
              go_roundw
              case rel => exact ⟨j + 1, by omega, by go_num, by rw [E.out], HO8.out, HB8.out⟩
              case measure => simp [intOf]; omega
          · obtain rfl : j = cs.length := by omega
            rw [take_all] at hown ⊢
            obtain ⟨Y, cy, rfl⟩ := own_slice hown
            have HSP := Lib.hid (show Strs wr Y cs.length (cs.map Prod.fst) from strs_of_row (by simp) (by rw [List.map_map]; exact hown))
            have HB := Lib.hid hb
            clear hb hown
            go_wp2_with (first
              | (go_at_call 8; first
                | ((with_reducible refine (of_any c2 c (H2.out.below HB.out) (H.out.below HB.out) (by omega) (by omega)).mono ?_); rintro e w4 ⟨ps, X, cx, m4, hP, rfl, hC, hm4, hb⟩; have HP := Lib.hid hP; have HC4 := Lib.hid hC; have HS4 := Lib.hid (HSP.out.below hb); have HB4 := Lib.hid (HB.out.trans (hb.mono HB.out.size)); clear hP hC hb)
                | ((with_reducible refine (of_any c c2 (H.out.below HB4.out) (H2.out.below HB4.out) (by omega) (by omega)).mono ?_); rintro e w5 ⟨ps5, X5, cx5, m5, hP, rfl, hC, hm5, hb⟩; have hee := back_law HP.out hP; have HC5 := Lib.hid hC; have HB5 := Lib.hid (HB4.out.trans (hb.mono HB4.out.size)); have HD5 := Lib.hid (show Changes w5 X m4 (back (chs (firstF xs) (firstF ys) ps5)) from by rw [← hee]; exact HC4.out.below hb); have HS5 := Lib.hid (HS4.out.below hb); clear hP hC hb HC4 hee))
              | (go_at_call 12; refine (back_any cx5 HC5.out hm5).mono ?_; rintro e w6 ⟨X6, c6, rfl, hown, hb⟩; have HC6 := Lib.hid (rowC_changes hown); have HB6 := Lib.hid (HB5.out.trans (hb.mono HB5.out.size)); have HD6 := Lib.hid (HD5.out.below hb); have HS6 := Lib.hid (HS5.out.below hb); generalize hdl : back (chs (firstF xs) (firstF ys) ps5) = dl at *; obtain rfl := HD6.out.1; clear hown hb HC5 HD5 hdl))
            go_loopw [65] (fun u wr2 => ∃ i : Nat, i ≤ dl.length ∧ u = .int .i64 i ∧ Below w6.heap.size w6 wr2) (fun u _ => dl.length - (intOf u).toNat)
            case atStart => exact ⟨0, Nat.zero_le _, rfl, Below.refl _ _⟩
            case round =>
              obtain ⟨i, hi2, rfl, hb2⟩ := hrel
              by_cases hlt2 : i < dl.length
              · obtain ⟨g, off, rfl, hgl, x, hx, c0, c1⟩ := (HD6.out.below hb2).at hlt2
                obtain ⟨g2, off2, rfl, hgl2, x2, hx2, d0, d1⟩ := (HC6.out.below hb2).at hlt2
                rw [hx] at hx2
                cases hx2
                have HB7 := Lib.hid hb2
                clear hb2 hx
                obtain ⟨p, kk⟩ := x
                dsimp only at *
                go_upto_region 20 with fail
                go_quiet (fail)
                go_wp2
                go_roundw
                case rel => exact ⟨i + 1, by omega, by go_num, by first | exact drewB HB7.out _ | exact HB7.out.drew⟩
                case measure => simp [intOf]; omega
              · obtain rfl : i = dl.length := by omega
                have HB7 := Lib.hid (HB6.out.trans (hb2.mono HB6.out.size))
                have HS7 := Lib.hid (HS6.out.below hb2)
                clear hb2 HC6 HD6 HS6
                go_wp2_with (go_at_call 12; first
                  | ((with_reducible refine (back_any c3 (H3.out.below HB7.out) (by omega)).mono ?_); rintro e w8 ⟨X8, c8, rfl, hown, hb⟩; have HB8 := Lib.hid (HB7.out.trans (hb.mono HB7.out.size)); have CB8 := Lib.hid (back_twice c8 (rowC_changes hown) (by omega)); have HS8 := Lib.hid (HS7.out.below hb); clear hown hb)
                  | ((with_reducible refine (CB8.out).mono ?_); rintro e w9 ⟨X9, c9, rfl, hown, hb⟩; have HB9 := Lib.hid (HB8.out.trans (hb.mono HB8.out.size)); have HC9 := Lib.hid (rowC_changes hown); have HS9 := Lib.hid (HS8.out.below hb); clear hown hb CB8))
                go_loopw [83] (fun u wr3 => ∃ i : Nat, i ≤ cs.length ∧ u = .int .i64 i ∧ Below w9.heap.size w9 wr3) (fun u _ => cs.length - (intOf u).toNat)
                case atStart => exact ⟨0, Nat.zero_le _, rfl, Below.refl _ _⟩
                case round =>
                  obtain ⟨i, hi3, rfl, hb3⟩ := hrel
                  by_cases hlt3 : i < cs.length
                  · obtain ⟨g, off, rfl, hgl, x, hx, c0, c1⟩ := (HC9.out.below hb3).at hlt3
                    obtain ⟨g2, off2, rfl, hgl2, x2, hx2, d0, d1⟩ := (H3.out.below (HB9.out.trans (hb3.mono HB9.out.size))).at hlt3
                    rw [hx] at hx2
                    cases hx2
                    have HBA := Lib.hid hb3
                    clear hb3 hx
                    obtain ⟨p, kk⟩ := x
                    dsimp only at *
                    have hd : (((cs.length : Nat) : Int) != ((cs.length : Nat) : Int)) = false := by simp
                    go_upto_region 27 with fail
                    go_quiet (fail)
                    go_wp2
                    go_roundw
                    case rel => exact ⟨i + 1, by omega, by go_num, by first | exact drewB HBA.out _ | exact HBA.out.drew⟩
                    case measure => simp [intOf]; omega
                  · obtain rfl : i = cs.length := by omega
                    have HBA := Lib.hid (HB9.out.trans (hb3.mono HB9.out.size))
                    have HSA := Lib.hid (HS9.out.below hb3)
                    clear hb3 HC9 HS9
                    go_wp2_with (first
                      | (go_at_call 13; refine (count_any c3 k (H3.out.below HBA.out) (by omega)).mono ?_; rintro e wB ⟨rfl, hb⟩; have HBB := Lib.hid (HBA.out.trans (hb.mono HBA.out.size)); have HSB := Lib.hid (HSA.out.below hb); clear hb)
                      | (go_at_call 15; refine (paths_any c3 (H3.out.below HBB.out) (by omega)).mono ?_; rintro e wC ⟨XC, cC, rfl, hS, hb⟩; have HBC := Lib.hid (HBB.out.trans (hb.mono HBB.out.size)); have HSC := Lib.hid (HSB.out.below hb); have HTC := Lib.hid hS; clear hS hb)
                      | (go_at_call 14; refine (texts_same cC cy HTC.out HSC.out (by omega)).mono ?_; rintro e wD ⟨rfl, hb⟩; have HBD := Lib.hid (HBC.out.trans (hb.mono HBC.out.size)); clear hb)
                      | (go_at_call 10; refine (empty_self c c (H.out.below HBD.out) (by omega)).mono ?_; rintro e wE ⟨rfl, hb⟩; have HBE := Lib.hid (HBD.out.trans (hb.mono HBD.out.size)); clear hb))
                    go_ret
                    exact ⟨rfl, HBE.out⟩
end Go.Proofs.Ytdnmacehfbjiiaa
