/- Changes counted, told by their paths; same texts: contracts (packages diff, sumpref01). -/
import Derived.Test.YtdnmacehfbjiiaaBack
namespace Go.Proofs.Ytdnmacehfbjiiaa
open Go.RowKit Go.Maps Go.Sort Go.Shelf

def cntC (cs : List Ch) (k : Int) : Nat := cs.countP (fun c => decide (c.2 = k))
theorem cntC_yes {cs : List Ch} {x : Ch} {k : Int} (h : x.2 = k) : cntC (cs ++ [x]) k = cntC cs k + 1 := by unfold cntC; rw [List.countP_append]; simp [h]
theorem cntC_no {cs : List Ch} {x : Ch} {k : Int} (h : ¬ x.2 = k) : cntC (cs ++ [x]) k = cntC cs k := by unfold cntC; rw [List.countP_append]; simp [h]
theorem cntC_le (cs : List Ch) (k : Int) : cntC cs k ≤ cs.length := List.countP_le_length
set_option maxRecDepth 100000 in
set_option maxHeartbeats 4000000 in
theorem count_any {A : Option Addr} {n : Nat} {cs : List Ch} {w : World} (cap : Nat) (k : Int) (h : Changes w A n cs) (hm : n ≤ 2000) : Calls Try.prog 13 #[.slice A n cap, .int .i64 k] w fun e w' => e = .returned (.int .i64 (cntC cs k)) ∧ Below w.heap.size w w' := by
  have hl := h.1
  have H := Lib.hid h
  clear h
  subst hl
  go_enter Try.func13, Try.ntmps13
  go_wp2
  go_loopw [5, 10] (fun t u wr => ∃ j : Nat, j ≤ cs.length ∧ u = .int .i64 j ∧ t = .int .i64 (cntC (cs.take j) k) ∧ Below w.heap.size w wr) (fun _ u _ => cs.length - (intOf u).toNat)
  case atStart => exact ⟨0, Nat.zero_le _, rfl, rfl, Below.refl _ _⟩
  case round =>
    obtain ⟨j, hj, rfl, rfl, hb⟩ := hrel
    by_cases hlt : j < cs.length
    · obtain ⟨g, off, rfl, hgl, x, hx, c0, c1⟩ := (H.out.below hb).at hlt
      have HB1 := Lib.hid (hb.alloc hb.size (.cells #[encStr x.1, .int .i64 x.2] 33))
      have HX := Lib.hid hx
      have hcl : cntC (cs.take j) k ≤ 2000 := by have := cntC_le (cs.take j) k; rw [List.length_take] at this; omega
      clear hb hx
      obtain ⟨p, kk⟩ := x
      dsimp only at *
      by_cases hk : kk = k
      · have e := cntC_yes (cs := cs.take j) (x := (p, kk)) hk
        rw [← take_snoc' HX.out] at e
        have E := Lib.hid e
        clear e
        subst hk
        go_wp2
        go_roundw
        case rel => exact ⟨j + 1, by omega, by go_num, by rw [E.out]; go_num, HB1.out⟩
        case measure => simp [intOf]; omega
      · have e := cntC_no (cs := cs.take j) (x := (p, kk)) hk
        rw [← take_snoc' HX.out] at e
        have E := Lib.hid e
        have q : (kk == k) = false := by simp [hk]
        clear e hk
        go_wp2
        go_roundw
        case rel => exact ⟨j + 1, by omega, by go_num, by rw [E.out], HB1.out⟩
        case measure => simp [intOf]; omega
    · obtain rfl : j = cs.length := by omega
      have HTK := Lib.hid (show cs.take cs.length = cs from List.take_length)
      have HB := Lib.hid hb
      clear hb
      go_wp2
      go_ret
      exact ⟨by rw [HTK.out]; rfl, HB.out⟩
theorem take_all {α : Type} (l : List α) : l.take l.length = l := List.take_length
set_option maxRecDepth 100000 in
set_option maxHeartbeats 4000000 in
theorem paths_any {A : Option Addr} {n : Nat} {cs : List Ch} {w : World} (cap : Nat) (h : Changes w A n cs) (hm : n ≤ 2000) : Calls Try.prog 15 #[.slice A n cap] w fun e w' => ∃ X c, e = .returned (.slice X cs.length c) ∧ Strs w' X cs.length (cs.map Prod.fst) ∧ Below w.heap.size w w' := by
  have hl := h.1
  have H := Lib.hid h
  clear h
  subst hl
  obtain ⟨i0, hi, hz0, hz1, hz2⟩ := info_parts info9
  go_enter Try.func15, Try.ntmps15
  go_wp2
  go_loopw [3, 8] (fun v u wr => ∃ j : Nat, j ≤ cs.length ∧ u = .int .i64 j ∧ wr.ownsRow w.heap.size 9 1 v j ((cs.take j).map (fun (c : Ch) => encStr c.1)) ∧ Below w.heap.size w wr) (fun _ u _ => cs.length - (intOf u).toNat)
  case atStart => exact ⟨0, Nat.zero_le _, rfl, World.ownsRow_nil _ _ _ _, Below.refl _ _⟩
  case round =>
    obtain ⟨j, hj, rfl, hown, hb⟩ := hrel
    by_cases hlt : j < cs.length
    · obtain ⟨g, off, rfl, hgl, x, hx, c0, c1⟩ := (H.out.below hb).at hlt
      have hb1 := hb.alloc hb.size (.cells #[encStr x.1, .int .i64 x.2] 33)
      have HB2 := Lib.hid (hb1.alloc hb1.size (.cells #[encStr x.1] 9))
      have HO := Lib.hid ((hown.alloc (.cells #[.string ⟨x.1.toArray⟩, .int .i64 x.2] 33)).alloc (.cells #[.string ⟨x.1.toArray⟩] 9))
      have HX := Lib.hid hx
      have hbs := hb.size
      clear hb hb1 hown hx
      obtain ⟨p, kk⟩ := x
      dsimp only at *
      go_wp2_with (first
        | (at_builtin; refine wpList_append_own_at _ rfl _ _ 39 rfl w.heap.size 9 i0 (encStr []) 1 16 Try.underlying39 hi hz0 hz1 hz2 rfl (by decide) _ j ((cs.take j).map (fun (c : Ch) => encStr c.1)) rfl HO.out ⟨wr.heap.size + 1, 0, none⟩ 1 1 [.string ⟨p.toArray⟩] rfl rfl ?d1 ?d2 ?d3 ?d4 ?d5 ?_))
      case d1 => have h9 := cell_one_new (wr.alloc (.cells #[.string ⟨p.toArray⟩, .int .i64 kk] 33)) (.string ⟨p.toArray⟩) 9; rw [show (wr.alloc (.cells #[.string ⟨p.toArray⟩, .int .i64 kk] 33)).heap.size = wr.heap.size + 1 from by simp] at h9; exact h9
      case d2 => first | rfl | (intro u hu; rw [List.mem_singleton] at hu; subst hu; rfl)
      case d3 => unfold maxLen; omega
      case d4 => omega
      case d5 => simp; omega
      intro v8 w8 hown8 hgrow8 _ _
      have HB8 := Lib.hid (HB2.out.grown hgrow8 HB2.out.size (fun k hk => (HO.out.lt k hk).1))
      have HO8 := Lib.hid (show w8.ownsRow w.heap.size 9 1 v8 (j + 1) ((cs.take (j + 1)).map (fun (c : Ch) => encStr c.1)) from by rw [take_snoc' HX.out, List.map_append, List.map_take]; exact hown8)
      clear hown8 hgrow8
      go_wp2
      go_roundw
      case rel => exact ⟨j + 1, by omega, by go_num, HO8.out, HB8.out⟩
      case measure => simp [intOf]; omega
    · obtain rfl : j = cs.length := by omega
      rw [take_all] at hown
      obtain ⟨X, c, rfl⟩ := own_slice hown
      have HO := Lib.hid hown
      have HB := Lib.hid hb
      clear hb hown
      go_wp2
      go_ret
      exact ⟨X, c, rfl, strs_of_row (by simp) (by rw [List.map_map]; exact HO.out), HB.out⟩
set_option maxRecDepth 100000 in
set_option maxHeartbeats 4000000 in
theorem texts_same {A A2 : Option Addr} {n : Nat} {ps : List Str} {w : World} (c c2 : Nat) (h : Strs w A n ps) (h2 : Strs w A2 n ps) (hm : n ≤ 2000) : Calls Try.prog 14 #[.slice A n c, .slice A2 n c2] w fun e w' => e = .returned (.bool true) ∧ Below w.heap.size w w' := by
  have hl := h.1
  have H := Lib.hid h
  have H2 := Lib.hid h2
  clear h h2
  subst hl
  go_enter Try.func14, Try.ntmps14
  go_wp2
  go_loopw [13] (fun u wr => ∃ j : Nat, j ≤ ps.length ∧ u = .int .i64 j ∧ Below w.heap.size w wr) (fun u _ => ps.length - (intOf u).toNat)
  case atStart => exact ⟨0, Nat.zero_le _, rfl, Below.refl _ _⟩
  case round =>
    obtain ⟨j, hj, rfl, hb⟩ := hrel
    by_cases hlt : j < ps.length
    · obtain ⟨g, off, rfl, hgl, x, hx, c0⟩ := (H.out.below hb).at hlt
      obtain ⟨g2, off2, rfl, hgl2, x2, hx2, d0⟩ := (H2.out.below hb).at hlt
      rw [hx] at hx2
      cases hx2
      have HB := Lib.hid hb
      clear hb hx
      go_upto_region 6 with fail
      go_quiet (fail)
      go_wp2
      go_roundw
      case rel => exact ⟨j + 1, by omega, by go_num, by first | exact HB.out.trans ⟨rfl, rfl, rfl, Nat.le_refl _, fun _ _ => rfl⟩ | exact HB.out.drew⟩
      case measure => simp [intOf]; omega
    · obtain rfl : j = ps.length := by omega
      have HB := Lib.hid hb
      clear hb
      go_wp2
      go_ret
      exact ⟨rfl, HB.out⟩
end Go.Proofs.Ytdnmacehfbjiiaa
