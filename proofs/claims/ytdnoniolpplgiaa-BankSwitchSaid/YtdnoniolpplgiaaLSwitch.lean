/- The law BankSwitch, walked (package sumplaw11). -/
import Derived.Test.YtdnoniolpplgiaaCut
namespace Go.Proofs.Ytdnoniolpplgiaa
open Go.RowKit Go.Maps Go.Sort Go.Shelf
theorem words_nil0 (w : World) : Words w none 0 [] := ⟨rfl, .inl rfl⟩
theorem way_half {er : Int} {d : Dv} {f g : Int → Int} {n : Int} (h : Way (er, d) f g n) : ∃ f0, d.n = n ∧ Half d f0 g ∧ (f0 = f ∨ f0 = g) ∧ (er = 0 → f0 = g) := by
  obtain ⟨h1, ⟨h2, h3⟩ | ⟨h2, h3⟩⟩ := h
  · exact ⟨g, h1, h3, .inr rfl, fun _ => rfl⟩
  · exact ⟨f, h1, h3, .inl rfl, fun e => absurd e h2⟩
theorem root_two {f f0 f5 : Int → Int} {er epoch k : Int} (hf : f 2 = 2) (h5 : f5 2 = f0 2 ∨ f5 2 = updF f 2 [rootV epoch k] 2) (h0 : f0 = f ∨ f0 = updF f 2 [rootV epoch k]) (hz : er = 0 → f0 = updF f 2 [rootV epoch k]) :
    ∃ e5 k5, f5 2 = rootV e5 k5 ∧ (e5 = 1 ∧ k5 = 0 ∨ e5 = epoch ∧ k5 = k) ∧ (er = 0 → e5 = epoch ∧ k5 = k) := by
  have hg : updF f 2 [rootV epoch k] 2 = rootV epoch k := updF_in (f := f) (a := 2) (xs := [rootV epoch k]) (j := 0) (by simp)
  by_cases hn : f5 2 = rootV epoch k
  · exact ⟨epoch, k, hn, .inr ⟨rfl, rfl⟩, fun _ => ⟨rfl, rfl⟩⟩
  · have h0f : f0 ≠ updF f 2 [rootV epoch k] := fun e => by rw [e, hg] at h5; exact hn (by rcases h5 with h | h <;> exact h)
    have h0e : f0 = f := by rcases h0 with h | h; exact h; exact absurd h h0f
    have h52 : f5 2 = 2 := by rcases h5 with h | h; (rw [h, h0e, hf]); (rw [hg] at h; exact absurd h hn)
    exact ⟨1, 0, h52, .inl ⟨rfl, rfl⟩, fun e => absurd (hz e) h0f⟩
section
variable {A : Option Addr} {l : Nat} {keep : List Bool} {w : World}
set_option maxRecDepth 100000 in
set_option maxHeartbeats 16000000 in
theorem switch_walk (pages epoch k arm : Int) (cap : Nat) (ha : W64 arm) (hB : Bools w A l keep) (hlo : keep ≠ [] → ∀ a, A = some a → a.block < w.heap.size) : Calls Try.prog 10 #[.int .i64 pages, .int .i64 epoch, .int .i64 k, .int .i64 arm, .slice A l cap] w fun e w' => e = .returned (.bool true) ∧ Below w.heap.size w w' := by
  have HAR := Lib.hid ha
  have HBo := Lib.hid hB
  have HLO := Lib.hid hlo
  clear ha hB hlo
  by_cases hp : pages < 64 ∨ 100 < pages
  · go_enter Try.func10, Try.ntmps10
    go_wp2_with (first
      | (go_at_call 33; refine (awake_bank w).mono ?_; rintro e w1 ⟨rfl, hb1⟩; have HB1 := Lib.hid hb1; clear hb1)
      | (go_at_call 35; refine (made_none (w := w1) (n := 0) (cap := 0) (n2 := 0) (cap2 := 0) pages hp).mono ?_; rintro e w2 ⟨p2, b2, i2, l2, q2, rfl, hb2⟩; unfold gv; have HB2 := Lib.hid (HB1.out.trans (hb2.mono HB1.out.size)); clear hb2))
    go_ret
    exact ⟨rfl, (HB2.out.alloc HB2.out.size _)⟩
  · have h0 : 64 ≤ pages := by omega
    have h1 : pages ≤ 100 := by omega
    obtain ⟨hb0, hb1, hi0, hi1, hl0, hl1, hft⟩ := ofs h0 h1
    have hmm : 3 ≤ pages * 32 := by omega
    have CM0 := fun w1 => made_yes (w := w1) (n := 0) (cap := 0) (n2 := 0) (cap2 := 0) pages h0 h1 (words_nil0 w1) (fun a h => by cases h) (words_nil0 w1) (fun a h => by cases h) (by omega) (by omega)
    clear hp hb0 hb1 hi0 hi1 hl0 hl1 hft
    generalize bOf pages = b at *
    generalize iOf pages = i at *
    generalize lOf pages = l' at *
    generalize qOf pages = q at *
    have CM := Lib.hid CM0
    unfold gv at CM
    clear CM0
    by_cases c0 : arm < 1
    · go_enter Try.func10, Try.ntmps10
      go_wp2_with (first
        | (go_at_call 33; refine (awake_bank w).mono ?_; rintro e w1 ⟨rfl, hb1⟩; have HB1 := Lib.hid hb1; clear hb1)
        | (go_at_call 35; refine (CM.out w1).mono ?_; rintro e w2 ⟨t, m, c, y, T, d, rfl, hK, hE, hnew, hb2⟩; have HB2 := Lib.hid (HB1.out.trans (hb2.mono HB1.out.size)); have hba : Below w2.heap.size w2 (w2.alloc (.cells #[.int .i64 pages, .int .i64 b, .int .i64 i, .int .i64 l', .int .i64 q] 58)) := (Below.refl _ _).alloc (Nat.le_refl _) _; have HB3 := Lib.hid (HB2.out.trans (hba.mono HB2.out.size)); have HX := Lib.hid (hE.at_ hba); have HK := Lib.hid hK; have HN := Lib.hid (fun j hj => Nat.le_trans HB1.out.size (hnew j hj)); clear hb2 hba hE hK hnew))
      go_ret
      exact ⟨rfl, HB3.out⟩
    · have n0 : ¬ arm < 1 := c0
      by_cases c1 : epoch < 0
      · go_enter Try.func10, Try.ntmps10
        go_wp2_with (first
          | (go_at_call 33; refine (awake_bank w).mono ?_; rintro e w1 ⟨rfl, hb1⟩; have HB1 := Lib.hid hb1; clear hb1)
          | (go_at_call 35; refine (CM.out w1).mono ?_; rintro e w2 ⟨t, m, c, y, T, d, rfl, hK, hE, hnew, hb2⟩; have HB2 := Lib.hid (HB1.out.trans (hb2.mono HB1.out.size)); have hba : Below w2.heap.size w2 (w2.alloc (.cells #[.int .i64 pages, .int .i64 b, .int .i64 i, .int .i64 l', .int .i64 q] 58)) := (Below.refl _ _).alloc (Nat.le_refl _) _; have HB3 := Lib.hid (HB2.out.trans (hba.mono HB2.out.size)); have HX := Lib.hid (hE.at_ hba); have HK := Lib.hid hK; have HN := Lib.hid (fun j hj => Nat.le_trans HB1.out.size (hnew j hj)); clear hb2 hba hE hK hnew))
        go_ret
        exact ⟨rfl, HB3.out⟩
      · have n1 : ¬ epoch < 0 := c1
        by_cases c2 : 1099511627776 < epoch
        · go_enter Try.func10, Try.ntmps10
          go_wp2_with (first
            | (go_at_call 33; refine (awake_bank w).mono ?_; rintro e w1 ⟨rfl, hb1⟩; have HB1 := Lib.hid hb1; clear hb1)
            | (go_at_call 35; refine (CM.out w1).mono ?_; rintro e w2 ⟨t, m, c, y, T, d, rfl, hK, hE, hnew, hb2⟩; have HB2 := Lib.hid (HB1.out.trans (hb2.mono HB1.out.size)); have hba : Below w2.heap.size w2 (w2.alloc (.cells #[.int .i64 pages, .int .i64 b, .int .i64 i, .int .i64 l', .int .i64 q] 58)) := (Below.refl _ _).alloc (Nat.le_refl _) _; have HB3 := Lib.hid (HB2.out.trans (hba.mono HB2.out.size)); have HX := Lib.hid (hE.at_ hba); have HK := Lib.hid hK; have HN := Lib.hid (fun j hj => Nat.le_trans HB1.out.size (hnew j hj)); clear hb2 hba hE hK hnew))
          go_ret
          exact ⟨rfl, HB3.out⟩
        · have n2 : ¬ 1099511627776 < epoch := c2
          by_cases c3 : k < 0
          · go_enter Try.func10, Try.ntmps10
            go_wp2_with (first
              | (go_at_call 33; refine (awake_bank w).mono ?_; rintro e w1 ⟨rfl, hb1⟩; have HB1 := Lib.hid hb1; clear hb1)
              | (go_at_call 35; refine (CM.out w1).mono ?_; rintro e w2 ⟨t, m, c, y, T, d, rfl, hK, hE, hnew, hb2⟩; have HB2 := Lib.hid (HB1.out.trans (hb2.mono HB1.out.size)); have hba : Below w2.heap.size w2 (w2.alloc (.cells #[.int .i64 pages, .int .i64 b, .int .i64 i, .int .i64 l', .int .i64 q] 58)) := (Below.refl _ _).alloc (Nat.le_refl _) _; have HB3 := Lib.hid (HB2.out.trans (hba.mono HB2.out.size)); have HX := Lib.hid (hE.at_ hba); have HK := Lib.hid hK; have HN := Lib.hid (fun j hj => Nat.le_trans HB1.out.size (hnew j hj)); clear hb2 hba hE hK hnew))
            go_ret
            exact ⟨rfl, HB3.out⟩
          · have n3 : ¬ k < 0 := c3
            by_cases c4 : 1 < k
            · go_enter Try.func10, Try.ntmps10
              go_wp2_with (first
                | (go_at_call 33; refine (awake_bank w).mono ?_; rintro e w1 ⟨rfl, hb1⟩; have HB1 := Lib.hid hb1; clear hb1)
                | (go_at_call 35; refine (CM.out w1).mono ?_; rintro e w2 ⟨t, m, c, y, T, d, rfl, hK, hE, hnew, hb2⟩; have HB2 := Lib.hid (HB1.out.trans (hb2.mono HB1.out.size)); have hba : Below w2.heap.size w2 (w2.alloc (.cells #[.int .i64 pages, .int .i64 b, .int .i64 i, .int .i64 l', .int .i64 q] 58)) := (Below.refl _ _).alloc (Nat.le_refl _) _; have HB3 := Lib.hid (HB2.out.trans (hba.mono HB2.out.size)); have HX := Lib.hid (hE.at_ hba); have HK := Lib.hid hK; have HN := Lib.hid (fun j hj => Nat.le_trans HB1.out.size (hnew j hj)); clear hb2 hba hE hK hnew))
              go_ret
              exact ⟨rfl, HB3.out⟩
            · have n4 : ¬ 1 < k := c4
              by_cases c5 : 100 < l
              · go_enter Try.func10, Try.ntmps10
                go_wp2_with (first
                  | (go_at_call 33; refine (awake_bank w).mono ?_; rintro e w1 ⟨rfl, hb1⟩; have HB1 := Lib.hid hb1; clear hb1)
                  | (go_at_call 35; refine (CM.out w1).mono ?_; rintro e w2 ⟨t, m, c, y, T, d, rfl, hK, hE, hnew, hb2⟩; have HB2 := Lib.hid (HB1.out.trans (hb2.mono HB1.out.size)); have hba : Below w2.heap.size w2 (w2.alloc (.cells #[.int .i64 pages, .int .i64 b, .int .i64 i, .int .i64 l', .int .i64 q] 58)) := (Below.refl _ _).alloc (Nat.le_refl _) _; have HB3 := Lib.hid (HB2.out.trans (hba.mono HB2.out.size)); have HX := Lib.hid (hE.at_ hba); have HK := Lib.hid hK; have HN := Lib.hid (fun j hj => Nat.le_trans HB1.out.size (hnew j hj)); clear hb2 hba hE hK hnew))
                go_ret
                exact ⟨rfl, HB3.out⟩
              · have n5 : ¬ 100 < l := c5
                have hq0 : 0 ≤ epoch := by omega
                have hq1 : epoch ≤ 1099511627776 := by omega
                have hk0 : 0 ≤ k := by omega
                have hk1 : k ≤ 1 := by omega
                go_enter Try.func10, Try.ntmps10
                go_upto_region 10 with (first
                  | (go_at_call 33; refine (awake_bank w).mono ?_; rintro e w1 ⟨rfl, hb1⟩; have HB1 := Lib.hid hb1; clear hb1)
                  | (go_at_call 35; refine (CM.out w1).mono ?_; rintro e w2 ⟨t, m, c, y, T, d, rfl, hK, hE, hnew, hb2⟩; have HB2 := Lib.hid (HB1.out.trans (hb2.mono HB1.out.size)); have hba : Below w2.heap.size w2 (w2.alloc (.cells #[.int .i64 pages, .int .i64 b, .int .i64 i, .int .i64 l', .int .i64 q] 58)) := (Below.refl _ _).alloc (Nat.le_refl _) _; have HB3 := Lib.hid (HB2.out.trans (hba.mono HB2.out.size)); have HX := Lib.hid (hE.at_ hba); have HK := Lib.hid hK; have HN := Lib.hid (fun j hj => Nat.le_trans HB1.out.size (hnew j hj)); clear hb2 hba hE hK hnew)
                  | (go_at_call 14; refine (arm_ex HX.out HAR.out).mono ?_; rintro e w3 ⟨rfl, hE⟩; have HX3 := Lib.hid (hE); have HB4 := Lib.hid (hE.kept.below HB3.out HN.out HB3.out.size); obtain ⟨f, hO, hM⟩ := HK.out.ok; have HA := Lib.hid (hO.arm (max arm 0)); have HF2 := Lib.hid hM.rt; clear hE hO hM)
                  | (go_at_call 45; refine (switch_cut HX3.out.here HA.out hmm epoch k hq0 hq1 (by omega)).mono ?_; rintro e w4 ⟨T4, ⟨er, d4⟩, rfl, hWy, hE⟩; have HX4 := Lib.hid hE; have HB5 := Lib.hid (hE.kept.below HB4.out HN.out HB4.out.size); obtain ⟨f0, hn4, hH, hf0, hz⟩ := way_half hWy; have HH := Lib.hid hH; have HN4 := Lib.hid hn4; have HF0 := Lib.hid hf0; have HZ := Lib.hid hz; clear hE hWy hH hn4 hf0 hz)
                  | (go_at_call 20; refine (crash_cut HX4.out.here HH.out HN4.out cap (HBo.out.below HB5.out) (fun hne a ha => not_old HN.out (HLO.out hne a ha))).mono ?_; rintro e w5 ⟨c5, y5, d5, f5, rfl, hO, hf, hD, hk⟩; have HB6 := Lib.hid (hk.below HB5.out HN.out HB5.out.size); have HD5 := Lib.hid hD; have HO5 := Lib.hid hO; obtain ⟨e5, k5, hr5, hq, hz5⟩ := root_two HF2.out (hf 2) HF0.out HZ.out; have HR5 := Lib.hid hr5; have HQ := Lib.hid hq; have HZ5 := Lib.hid hz5; clear hO hf hD hk hr5 hq hz5)
                  | (go_at_call 41; refine (root_cut HD5.out HO5.out hmm (by have := HQ.out; omega) (by have := HQ.out; omega) (by have := HQ.out; omega) (by have := HQ.out; omega) HR5.out).mono ?_; rintro e w6 ⟨rfl, rfl⟩))
                have HC := Lib.hid (And.intro HQ.out HZ5.out)
                clear HQ HZ5 HX HX3 HX4 HK HA HF2 HH HN4 HF0 HZ HD5 HO5 HR5 HN HBo HLO HAR
                by_cases x1 : e5 = 1 <;> by_cases x2 : k5 = 0 <;> by_cases x3 : e5 = epoch <;> by_cases x4 : k5 = k <;> by_cases x5 : er = 0 <;> first
                  | (exfalso; have := HC.out; omega)
                  | (go_wp2; go_ret; refine ⟨?_, HB6.out⟩; first | rfl | (show Ending.returned (.bool _) = Ending.returned (.bool true); refine congrArg (fun z => Ending.returned (Value.bool z)) ?_; simp; omega))
end
end Go.Proofs.Ytdnoniolpplgiaa
