/- The law BankWhole, walked (package sumplaw11). -/
import Derived.Test.YtdnoniolpplgiaaAppW
namespace Go.Proofs.Ytdnoniolpplgiaa
open Go.RowKit Go.Maps Go.Sort Go.Shelf
section
variable {A1 A2 A3 A5 : Option Addr} {n1 n2 n3 n5 : Nat} {xs ys zs : List Int} {keep : List Bool} {w : World}
set_option maxRecDepth 100000 in
set_option maxHeartbeats 16000000 in
theorem whole_walk (pages arm : Int) (c1 c2 c3 c5 : Nat) (h1 : Words w A1 n1 xs) (l1 : xs ≠ [] → ∀ a, A1 = some a → a.block < w.heap.size) (h2 : Words w A2 n2 ys) (l2 : ys ≠ [] → ∀ a, A2 = some a → a.block < w.heap.size) (h3 : Words w A3 n3 zs) (l3 : zs ≠ [] → ∀ a, A3 = some a → a.block < w.heap.size) (ha : W64 arm) (hB : Bools w A5 n5 keep) (hlo : keep ≠ [] → ∀ a, A5 = some a → a.block < w.heap.size) : Calls Try.prog 7 #[.int .i64 pages, .slice A1 n1 c1, .slice A2 n2 c2, .slice A3 n3 c3, .int .i64 arm, .slice A5 n5 c5] w fun e w' => e = .returned (.bool true) ∧ Below w.heap.size w w' := by
  have HAR := Lib.hid ha
  have HBo := Lib.hid hB
  have HLO := Lib.hid hlo
  have H1 := Lib.hid h1
  have H2 := Lib.hid h2
  have H3 := Lib.hid h3
  have L1 := Lib.hid l1
  have L2 := Lib.hid l2
  have L3 := Lib.hid l3
  clear ha hB hlo h1 h2 h3 l1 l2 l3
  by_cases x1 : n1 ≤ 200
  case neg =>
    have e1 := Lib.hid x1
    clear x1
    go_enter Try.func7, Try.ntmps7
    go_wp2_with (first
      | (go_at_call 33; refine (awake_bank w).mono ?_; rintro e w1 ⟨rfl, hb1⟩; have HB1 := Lib.hid hb1; clear hb1)
      | (go_at_call 34; first | (with_reducible refine (few_no w1 A1 n1 c1 e1.out).mono ?_; rintro e w' ⟨rfl, hw⟩; rw [hw]; clear hw w')))
    go_ret
    exact ⟨rfl, HB1.out⟩
  have e1 := Lib.hid x1
  clear x1
  by_cases x2 : n2 ≤ 200
  case neg =>
    have e2 := Lib.hid x2
    clear x2
    go_enter Try.func7, Try.ntmps7
    go_wp2_with (first
      | (go_at_call 33; refine (awake_bank w).mono ?_; rintro e w1 ⟨rfl, hb1⟩; have HB1 := Lib.hid hb1; clear hb1)
      | (go_at_call 34; first | (with_reducible refine (few_yes w1 A1 n1 c1 e1.out).mono ?_; rintro e w' ⟨rfl, hw⟩; rw [hw]; clear hw w') | (with_reducible refine (few_no w1 A2 n2 c2 e2.out).mono ?_; rintro e w' ⟨rfl, hw⟩; rw [hw]; clear hw w')))
    go_ret
    exact ⟨rfl, HB1.out⟩
  have e2 := Lib.hid x2
  clear x2
  by_cases x3 : n3 ≤ 200
  case neg =>
    have e3 := Lib.hid x3
    clear x3
    go_enter Try.func7, Try.ntmps7
    go_wp2_with (first
      | (go_at_call 33; refine (awake_bank w).mono ?_; rintro e w1 ⟨rfl, hb1⟩; have HB1 := Lib.hid hb1; clear hb1)
      | (go_at_call 34; first | (with_reducible refine (few_yes w1 A1 n1 c1 e1.out).mono ?_; rintro e w' ⟨rfl, hw⟩; rw [hw]; clear hw w') | (with_reducible refine (few_yes w1 A2 n2 c2 e2.out).mono ?_; rintro e w' ⟨rfl, hw⟩; rw [hw]; clear hw w') | (with_reducible refine (few_no w1 A3 n3 c3 e3.out).mono ?_; rintro e w' ⟨rfl, hw⟩; rw [hw]; clear hw w')))
    go_ret
    exact ⟨rfl, HB1.out⟩
  have e3 := Lib.hid x3
  clear x3
  by_cases x5 : (300 : Int) < n5
  case pos =>
    go_enter Try.func7, Try.ntmps7
    go_wp2_with (first
      | (go_at_call 33; refine (awake_bank w).mono ?_; rintro e w1 ⟨rfl, hb1⟩; have HB1 := Lib.hid hb1; clear hb1)
      | (go_at_call 34; first | (with_reducible refine (few_yes w1 A1 n1 c1 e1.out).mono ?_; rintro e w' ⟨rfl, hw⟩; rw [hw]; clear hw w') | (with_reducible refine (few_yes w1 A2 n2 c2 e2.out).mono ?_; rintro e w' ⟨rfl, hw⟩; rw [hw]; clear hw w') | (with_reducible refine (few_yes w1 A3 n3 c3 e3.out).mono ?_; rintro e w' ⟨rfl, hw⟩; rw [hw]; clear hw w')))
    go_ret
    exact ⟨rfl, HB1.out⟩
  by_cases hp : pages < 64 ∨ 100 < pages
  case pos =>
    go_enter Try.func7, Try.ntmps7
    go_wp2_with (first
      | (go_at_call 33; refine (awake_bank w).mono ?_; rintro e w1 ⟨rfl, hb1⟩; have HB1 := Lib.hid hb1; clear hb1)
      | (go_at_call 34; first | (with_reducible refine (few_yes w1 A1 n1 c1 e1.out).mono ?_; rintro e w' ⟨rfl, hw⟩; rw [hw]; clear hw w') | (with_reducible refine (few_yes w1 A2 n2 c2 e2.out).mono ?_; rintro e w' ⟨rfl, hw⟩; rw [hw]; clear hw w') | (with_reducible refine (few_yes w1 A3 n3 c3 e3.out).mono ?_; rintro e w' ⟨rfl, hw⟩; rw [hw]; clear hw w'))
      | (go_at_call 35; refine (made_none (w := w1) pages hp).mono ?_; rintro e w2 ⟨p2, b2, i2, l2, q2, rfl, hb2⟩; unfold gv; have HB2 := Lib.hid (HB1.out.trans (hb2.mono HB1.out.size)); clear hb2))
    go_ret
    exact ⟨rfl, (HB2.out.alloc HB2.out.size _)⟩
  have h0 : 64 ≤ pages := by omega
  have h1 : pages ≤ 100 := by omega
  obtain ⟨hb0, hb1, hi0, hi1, hl0, hl1, hft⟩ := ofs h0 h1
  by_cases hs : iOf pages < n1
  case pos =>
    have CM0 := fun w1 (_ : Below w.heap.size w w1) => made_short (w := w1) (A := A1) (cap := c1) (B := A2) (n2 := n2) (cap2 := c2) pages h0 h1 hs
    clear hs
    clear hp hb0 hb1 hi0 hi1 hl0 hl1 hft
    generalize bOf pages = b at *
    generalize iOf pages = i at *
    generalize lOf pages = l at *
    generalize qOf pages = q at *
    have CM := Lib.hid CM0
    unfold gv at CM
    clear CM0
    go_enter Try.func7, Try.ntmps7
    go_wp2_with (first
      | (go_at_call 33; refine (awake_bank w).mono ?_; rintro e w1 ⟨rfl, hb1⟩; have HB1 := Lib.hid hb1; clear hb1)
      | (go_at_call 34; first | (with_reducible refine (few_yes w1 A1 n1 c1 e1.out).mono ?_; rintro e w' ⟨rfl, hw⟩; rw [hw]; clear hw w') | (with_reducible refine (few_yes w1 A2 n2 c2 e2.out).mono ?_; rintro e w' ⟨rfl, hw⟩; rw [hw]; clear hw w') | (with_reducible refine (few_yes w1 A3 n3 c3 e3.out).mono ?_; rintro e w' ⟨rfl, hw⟩; rw [hw]; clear hw w'))
      | (go_at_call 35; refine (CM.out w1 HB1.out).mono ?_; rintro e w2 ⟨t, rfl, hb2⟩; have HB2 := Lib.hid (HB1.out.trans (hb2.mono HB1.out.size)); clear hb2))
    go_ret
    exact ⟨rfl, (HB2.out.alloc HB2.out.size _)⟩
  by_cases hs2 : lOf pages < n2
  case pos =>
    have CM0 := fun w1 (hb : Below w.heap.size w w1) => made_long (w := w1) (cap := c1) (B := A2) (cap2 := c2) pages h0 h1 (H1.out.below hb) (fun hx a ha => Nat.lt_of_lt_of_le (L1.out hx a ha) hb.size) (by omega) hs2
    clear hs hs2
    clear hp hb0 hb1 hi0 hi1 hl0 hl1 hft
    generalize bOf pages = b at *
    generalize iOf pages = i at *
    generalize lOf pages = l at *
    generalize qOf pages = q at *
    have CM := Lib.hid CM0
    unfold gv at CM
    clear CM0
    go_enter Try.func7, Try.ntmps7
    go_wp2_with (first
      | (go_at_call 33; refine (awake_bank w).mono ?_; rintro e w1 ⟨rfl, hb1⟩; have HB1 := Lib.hid hb1; clear hb1)
      | (go_at_call 34; first | (with_reducible refine (few_yes w1 A1 n1 c1 e1.out).mono ?_; rintro e w' ⟨rfl, hw⟩; rw [hw]; clear hw w') | (with_reducible refine (few_yes w1 A2 n2 c2 e2.out).mono ?_; rintro e w' ⟨rfl, hw⟩; rw [hw]; clear hw w') | (with_reducible refine (few_yes w1 A3 n3 c3 e3.out).mono ?_; rintro e w' ⟨rfl, hw⟩; rw [hw]; clear hw w'))
      | (go_at_call 35; refine (CM.out w1 HB1.out).mono ?_; rintro e w2 ⟨t, rfl, hb2⟩; have HB2 := Lib.hid (HB1.out.trans (hb2.mono HB1.out.size)); clear hb2))
    go_ret
    exact ⟨rfl, (HB2.out.alloc HB2.out.size _)⟩
  have CM0 := fun w1 (hb : Below w.heap.size w w1) => made_yes (w := w1) (cap := c1) (cap2 := c2) pages h0 h1 (H1.out.below hb) (fun hx a ha => Nat.lt_of_lt_of_le (L1.out hx a ha) hb.size) (H2.out.below hb) (fun hx a ha => Nat.lt_of_lt_of_le (L2.out hx a ha) hb.size) (by omega) (by omega)
  clear hs hs2
  clear hp hb0 hb1 hi0 hi1 hl0 hl1 hft
  generalize bOf pages = b at *
  generalize iOf pages = i at *
  generalize lOf pages = l at *
  generalize qOf pages = q at *
  have CM := Lib.hid CM0
  unfold gv at CM
  clear CM0
  by_cases x6 : arm < 1
  case pos =>
    go_enter Try.func7, Try.ntmps7
    go_wp2_with (first
      | (go_at_call 33; refine (awake_bank w).mono ?_; rintro e w1 ⟨rfl, hb1⟩; have HB1 := Lib.hid hb1; clear hb1)
      | (go_at_call 34; first | (with_reducible refine (few_yes w1 A1 n1 c1 e1.out).mono ?_; rintro e w' ⟨rfl, hw⟩; rw [hw]; clear hw w') | (with_reducible refine (few_yes w1 A2 n2 c2 e2.out).mono ?_; rintro e w' ⟨rfl, hw⟩; rw [hw]; clear hw w') | (with_reducible refine (few_yes w1 A3 n3 c3 e3.out).mono ?_; rintro e w' ⟨rfl, hw⟩; rw [hw]; clear hw w'))
      | (go_at_call 35; refine (CM.out w1 HB1.out).mono ?_; rintro e w2 ⟨t, m, c, y, T, d, rfl, hK, hE, hnew, hb2⟩; have HB2 := Lib.hid (HB1.out.trans (hb2.mono HB1.out.size)); have hba : Below w2.heap.size w2 (w2.alloc (.cells #[.int .i64 pages, .int .i64 b, .int .i64 i, .int .i64 l, .int .i64 q] 58)) := (Below.refl _ _).alloc (Nat.le_refl _) _; have HB3 := Lib.hid (HB2.out.trans (hba.mono HB2.out.size)); have HX := Lib.hid (hE.at_ hba); have HK := Lib.hid hK; have HN := Lib.hid (fun j hj => Nat.le_trans HB1.out.size (hnew j hj)); have HG := Lib.hid (GB.new w2 pages b i l q); have HGO := Lib.hid (out_at hE.dev.lt 0); clear hb2 hba hE hK hnew))
    go_ret
    exact ⟨rfl, HB3.out⟩
  have CRD := Lib.hid (fun (w5 : World) (t m c y : Nat) (T : List Int) (d5 : Dv) (log' : List Int) (hD : DevIs w5 t m c y T d5) (hB : Bank d5 b i l xs log' 1937075568 pages 2 (pages * 32)) => read_bank (p := pages) (q := q) hD hB)
  have CAP := Lib.hid (fun (w3 : World) (t m c y N : Nat) (T : List Int) (d : Dv) (h : EX w3 w3 t m c y T d N) (hB : Bank0 d b i l xs ys 1937075568 pages 2 (pages * 32)) (hW : Words w3 A3 n3 zs) (hA : zs ≠ [] → ∀ a, A3 = some a → a.block ∉ [t, m, c, y]) (hn : n3 ≤ 5000) (hN : N ≤ 20000) => app_cut (p := pages) (q := q) h hB c3 hW hA hn hN)
  unfold gv at CRD CAP
  go_enter Try.func7, Try.ntmps7
  go_upto_region 12 with (first
    | (go_at_call 33; refine (awake_bank w).mono ?_; rintro e w1 ⟨rfl, hb1⟩; have HB1 := Lib.hid hb1; clear hb1)
    | (go_at_call 34; first | (with_reducible refine (few_yes w1 A1 n1 c1 e1.out).mono ?_; rintro e w' ⟨rfl, hw⟩; rw [hw]; clear hw w') | (with_reducible refine (few_yes w1 A2 n2 c2 e2.out).mono ?_; rintro e w' ⟨rfl, hw⟩; rw [hw]; clear hw w') | (with_reducible refine (few_yes w1 A3 n3 c3 e3.out).mono ?_; rintro e w' ⟨rfl, hw⟩; rw [hw]; clear hw w'))
    | (go_at_call 35; refine (CM.out w1 HB1.out).mono ?_; rintro e w2 ⟨t, m, c, y, T, d, rfl, hK, hE, hnew, hb2⟩; have HB2 := Lib.hid (HB1.out.trans (hb2.mono HB1.out.size)); have hba : Below w2.heap.size w2 (w2.alloc (.cells #[.int .i64 pages, .int .i64 b, .int .i64 i, .int .i64 l, .int .i64 q] 58)) := (Below.refl _ _).alloc (Nat.le_refl _) _; have HB3 := Lib.hid (HB2.out.trans (hba.mono HB2.out.size)); have HX := Lib.hid (hE.at_ hba); have HK := Lib.hid hK; have HN := Lib.hid (fun j hj => Nat.le_trans HB1.out.size (hnew j hj)); have HG := Lib.hid (GB.new w2 pages b i l q); have HGO := Lib.hid (out_at hE.dev.lt 0); clear hb2 hba hE hK hnew)
    | (go_at_call 14; refine (arm_ex HX.out HAR.out).mono ?_; rintro e w3 ⟨rfl, hE⟩; have HX3 := Lib.hid (hE); have HB4 := Lib.hid (hE.kept.below HB3.out HN.out HB3.out.size); have HK0 := Lib.hid (HK.out.arm (max arm 0)); have HG3 := Lib.hid (HG.out.kept hE.kept HGO.out); have g30 := HG3.out.c0; have g31 := HG3.out.c1; have g32 := HG3.out.c2; have g33 := HG3.out.c3; have g34 := HG3.out.c4; clear hE)
    | (go_at_call 36; refine (CAP.out _ _ _ _ _ _ _ _ HX3.out.here HK0.out (H3.out.below HB4.out) (fun hne a ha => not_old HN.out (L3.out hne a ha)) (by have := e3.out; omega) (by omega)).mono ?_; rintro e w4 ⟨T4, er, d4, rfl, hR, hE⟩; have HX4 := Lib.hid hE; have HR := Lib.hid hR; have HB5 := Lib.hid (hE.kept.below HB4.out HN.out HB4.out.size); have HG4 := Lib.hid (HG3.out.kept hE.kept HGO.out); have g40 := HG4.out.c0; have g41 := HG4.out.c1; have g42 := HG4.out.c2; have g43 := HG4.out.c3; have g44 := HG4.out.c4; clear hE hR)
    | (go_at_call 20; refine (HR.out.crash HX4.out.here HK.out.b0 HK.out.b1 HK.out.i1 HK.out.l1 HK.out.fits HK.out.im c5 (HBo.out.below HB5.out) (fun hne a ha => not_old HN.out (HLO.out hne a ha))).mono ?_; rintro e w5 ⟨c5', y5, d5, log', rfl, hK, hl, hz, hD, hk⟩; have HB6 := Lib.hid (hk.below HB5.out HN.out HB5.out.size); have HG5 := Lib.hid (HG4.out.kept hk HGO.out); have g50 := HG5.out.c0; have g51 := HG5.out.c1; have g52 := HG5.out.c2; have g53 := HG5.out.c3; have g54 := HG5.out.c4; have HK5 := Lib.hid hK; have HL := Lib.hid hl; have HZ := Lib.hid hz; have HD5 := Lib.hid hD; clear hK hl hz hD hk)
    | (go_at_call 37; refine (CRD.out _ _ _ _ _ _ _ _ HD5.out HK5.out).mono ?_; rintro e w6 ⟨X, cx, Y, cy, rfl, hX, hY, hb6⟩; have HB7 := Lib.hid (HB6.out.trans (hb6.mono HB6.out.size)); have HX6 := Lib.hid hX; have HY6 := Lib.hid hY; clear hX hY hb6))
  have HLN := Lib.hid (show log'.length ≤ maxLen from by have := HK5.out.lg; have := HK5.out.l1; unfold maxLen; omega)
  have HLX := Lib.hid (show xs.length ≤ maxLen from by have := HK5.out.im; have := HK5.out.i1; unfold maxLen; omega)
  clear HX HX3 HX4 HK HK0 HR HG HG3 HG4 HG5 HD5 HGO HN CM CAP CRD HAR HBo HLO L1 L2 L3
  by_cases q1 : log' = ys
  · have Q1 := Lib.hid q1
    clear q1
    by_cases q2 : er = 0
    · have Q2 := Lib.hid (HZ.out q2)
      go_wp2_with (first
        | (at_builtin; refine wpList_appU rfl _ _ rfl (v := .slice none 0 0) (Y := A2) (m := n2) (c := c2) (xs := []) (ys := ys) (n := 0) rfl rfl (World.ownsRow_nil _ w.heap.size 28 1) (H2.out.below HB7.out) (by omega) (by have := e2.out; omega) HB7.out.size ?_; intro v7 w7 hown7 hg7 hat7; have HB8 := Lib.hid (HB7.out.grown hg7 HB7.out.size (fun k hk => by cases hk)); have HO7 := Lib.hid (show w7.ownsRow w.heap.size 28 1 v7 n2 (ys.map (Value.int .u64)) from by simpa using hown7); have HW7 := Lib.hid (show Below w6.heap.size w6 w7 from (Below.refl _ _).grown hg7 (Nat.le_refl _) (fun k hk => by cases hk)); have HAT := Lib.hid hat7; clear hown7 hg7 hat7)
        | (at_builtin; refine wpList_appU rfl _ _ rfl (v := v7) (Y := A3) (m := n3) (c := c3) (xs := ys) (ys := zs) (n := n2) rfl rfl HO7.out (H3.out.below HB8.out) (by have := e2.out; omega) (by have := e3.out; omega) HB8.out.size ?_; intro v8 w8 hown8 hg8 hat8; obtain ⟨V, cv, rfl⟩ := own_slice hown8; have HB9 := Lib.hid (HB8.out.grown hg8 HB8.out.size (fun k hk => (HO7.out.lt k hk).1)); have HW8 := Lib.hid (show Below w6.heap.size w6 w8 from HW7.out.grown hg8 HW7.out.size (fun k hk => by rcases HAT.out with h | h <;> rw [h] at hk <;> cases hk; exact Nat.le_refl _)); have HV := Lib.hid (words_of_row (by rw [List.length_append, H2.out.1, H3.out.1]) hown8); have HX8 := Lib.hid (HX6.out.below HW8.out); have HY8 := Lib.hid (HY6.out.below HW8.out); clear hown8 hg8 hat8)
        | (go_at_call 38; first
            | (with_reducible refine (words_eq cy c2 Q1.out HY8.out (H2.out.below HB9.out) HLN.out).mono ?_; rintro e w9 ⟨rfl, hb⟩; have HV8 := Lib.hid HV.out; have HB10 := Lib.hid (HB9.out.trans (hb.mono HB9.out.size)); have HX9 := Lib.hid (HX8.out.below hb); have HY9 := Lib.hid (HY8.out.below hb); have HV9 := Lib.hid (HV8.out.below hb); clear hb)
            | (with_reducible refine (words_eq cx c1 rfl HX9.out (H1.out.below HB10.out) HLX.out).mono ?_; rintro e w10 ⟨rfl, hb⟩; have HB11 := Lib.hid (HB10.out.trans (hb.mono HB10.out.size)); have HX10 := Lib.hid (HX9.out.below hb); have HY10 := Lib.hid (HY9.out.below hb); have HV10 := Lib.hid (HV9.out.below hb); clear hb)
            | (with_reducible refine (words_eq cy cv Q2.out HY10.out HV10.out HLN.out).mono ?_; rintro e w11 ⟨rfl, hb⟩; have HB12 := Lib.hid (HB11.out.trans (hb.mono HB11.out.size)); have HX11 := Lib.hid (HX10.out.below hb); have HY11 := Lib.hid (HY10.out.below hb); have HV11 := Lib.hid (HV10.out.below hb); clear hb)))
      go_ret
      exact ⟨rfl, HB12.out⟩
    · clear HZ HL
      go_wp2_with (first
        | (at_builtin; refine wpList_appU rfl _ _ rfl (v := .slice none 0 0) (Y := A2) (m := n2) (c := c2) (xs := []) (ys := ys) (n := 0) rfl rfl (World.ownsRow_nil _ w.heap.size 28 1) (H2.out.below HB7.out) (by omega) (by have := e2.out; omega) HB7.out.size ?_; intro v7 w7 hown7 hg7 hat7; have HB8 := Lib.hid (HB7.out.grown hg7 HB7.out.size (fun k hk => by cases hk)); have HO7 := Lib.hid (show w7.ownsRow w.heap.size 28 1 v7 n2 (ys.map (Value.int .u64)) from by simpa using hown7); have HW7 := Lib.hid (show Below w6.heap.size w6 w7 from (Below.refl _ _).grown hg7 (Nat.le_refl _) (fun k hk => by cases hk)); have HAT := Lib.hid hat7; clear hown7 hg7 hat7)
        | (at_builtin; refine wpList_appU rfl _ _ rfl (v := v7) (Y := A3) (m := n3) (c := c3) (xs := ys) (ys := zs) (n := n2) rfl rfl HO7.out (H3.out.below HB8.out) (by have := e2.out; omega) (by have := e3.out; omega) HB8.out.size ?_; intro v8 w8 hown8 hg8 hat8; obtain ⟨V, cv, rfl⟩ := own_slice hown8; have HB9 := Lib.hid (HB8.out.grown hg8 HB8.out.size (fun k hk => (HO7.out.lt k hk).1)); have HW8 := Lib.hid (show Below w6.heap.size w6 w8 from HW7.out.grown hg8 HW7.out.size (fun k hk => by rcases HAT.out with h | h <;> rw [h] at hk <;> cases hk; exact Nat.le_refl _)); have HV := Lib.hid (words_of_row (by rw [List.length_append, H2.out.1, H3.out.1]) hown8); have HX8 := Lib.hid (HX6.out.below HW8.out); have HY8 := Lib.hid (HY6.out.below HW8.out); clear hown8 hg8 hat8)
        | (go_at_call 38; first
            | (with_reducible refine (words_eq cy c2 Q1.out HY8.out (H2.out.below HB9.out) HLN.out).mono ?_; rintro e w9 ⟨rfl, hb⟩; have HV8 := Lib.hid HV.out; have HB10 := Lib.hid (HB9.out.trans (hb.mono HB9.out.size)); have HX9 := Lib.hid (HX8.out.below hb); have HY9 := Lib.hid (HY8.out.below hb); have HV9 := Lib.hid (HV8.out.below hb); clear hb)
            | (with_reducible refine (words_eq cx c1 rfl HX9.out (H1.out.below HB10.out) HLX.out).mono ?_; rintro e w10 ⟨rfl, hb⟩; have HB11 := Lib.hid (HB10.out.trans (hb.mono HB10.out.size)); have HX10 := Lib.hid (HX9.out.below hb); have HY10 := Lib.hid (HY9.out.below hb); have HV10 := Lib.hid (HV9.out.below hb); clear hb)))
      go_ret
      exact ⟨rfl, HB11.out⟩
  · have Q1 := Lib.hid q1
    have Q2 := Lib.hid (show log' = ys ++ zs from by rcases HL.out with h | h; exact absurd h q1; exact h)
    clear q1
    by_cases q2 : er = 0
    · go_wp2_with (first
        | (at_builtin; refine wpList_appU rfl _ _ rfl (v := .slice none 0 0) (Y := A2) (m := n2) (c := c2) (xs := []) (ys := ys) (n := 0) rfl rfl (World.ownsRow_nil _ w.heap.size 28 1) (H2.out.below HB7.out) (by omega) (by have := e2.out; omega) HB7.out.size ?_; intro v7 w7 hown7 hg7 hat7; have HB8 := Lib.hid (HB7.out.grown hg7 HB7.out.size (fun k hk => by cases hk)); have HO7 := Lib.hid (show w7.ownsRow w.heap.size 28 1 v7 n2 (ys.map (Value.int .u64)) from by simpa using hown7); have HW7 := Lib.hid (show Below w6.heap.size w6 w7 from (Below.refl _ _).grown hg7 (Nat.le_refl _) (fun k hk => by cases hk)); have HAT := Lib.hid hat7; clear hown7 hg7 hat7)
        | (at_builtin; refine wpList_appU rfl _ _ rfl (v := v7) (Y := A3) (m := n3) (c := c3) (xs := ys) (ys := zs) (n := n2) rfl rfl HO7.out (H3.out.below HB8.out) (by have := e2.out; omega) (by have := e3.out; omega) HB8.out.size ?_; intro v8 w8 hown8 hg8 hat8; obtain ⟨V, cv, rfl⟩ := own_slice hown8; have HB9 := Lib.hid (HB8.out.grown hg8 HB8.out.size (fun k hk => (HO7.out.lt k hk).1)); have HW8 := Lib.hid (show Below w6.heap.size w6 w8 from HW7.out.grown hg8 HW7.out.size (fun k hk => by rcases HAT.out with h | h <;> rw [h] at hk <;> cases hk; exact Nat.le_refl _)); have HV := Lib.hid (words_of_row (by rw [List.length_append, H2.out.1, H3.out.1]) hown8); have HX8 := Lib.hid (HX6.out.below HW8.out); have HY8 := Lib.hid (HY6.out.below HW8.out); clear hown8 hg8 hat8)
        | (go_at_call 38; first
            | (with_reducible refine (words_ne cy c2 Q1.out HY8.out (H2.out.below HB9.out) HLN.out (by have := e2.out; unfold maxLen; omega)).mono ?_; rintro e w9 ⟨rfl, hb⟩; have HV8 := Lib.hid HV.out; have HB10 := Lib.hid (HB9.out.trans (hb.mono HB9.out.size)); have HX9 := Lib.hid (HX8.out.below hb); have HY9 := Lib.hid (HY8.out.below hb); have HV9 := Lib.hid (HV8.out.below hb); clear hb)
            | (with_reducible refine (words_eq cx c1 rfl HX9.out (H1.out.below HB10.out) HLX.out).mono ?_; rintro e w10 ⟨rfl, hb⟩; have HB11 := Lib.hid (HB10.out.trans (hb.mono HB10.out.size)); have HX10 := Lib.hid (HX9.out.below hb); have HY10 := Lib.hid (HY9.out.below hb); have HV10 := Lib.hid (HV9.out.below hb); clear hb)
            | (with_reducible refine (words_eq cy cv Q2.out HY10.out HV10.out HLN.out).mono ?_; rintro e w11 ⟨rfl, hb⟩; have HB12 := Lib.hid (HB11.out.trans (hb.mono HB11.out.size)); have HX11 := Lib.hid (HX10.out.below hb); have HY11 := Lib.hid (HY10.out.below hb); have HV11 := Lib.hid (HV10.out.below hb); clear hb)
            | (with_reducible refine (words_eq cy cv Q2.out HY11.out HV11.out HLN.out).mono ?_; rintro e w12 ⟨rfl, hb⟩; have HB13 := Lib.hid (HB12.out.trans (hb.mono HB12.out.size)); have HX12 := Lib.hid (HX11.out.below hb); have HY12 := Lib.hid (HY11.out.below hb); have HV12 := Lib.hid (HV11.out.below hb); clear hb)))
      go_ret
      exact ⟨rfl, HB13.out⟩
    · go_wp2_with (first
        | (at_builtin; refine wpList_appU rfl _ _ rfl (v := .slice none 0 0) (Y := A2) (m := n2) (c := c2) (xs := []) (ys := ys) (n := 0) rfl rfl (World.ownsRow_nil _ w.heap.size 28 1) (H2.out.below HB7.out) (by omega) (by have := e2.out; omega) HB7.out.size ?_; intro v7 w7 hown7 hg7 hat7; have HB8 := Lib.hid (HB7.out.grown hg7 HB7.out.size (fun k hk => by cases hk)); have HO7 := Lib.hid (show w7.ownsRow w.heap.size 28 1 v7 n2 (ys.map (Value.int .u64)) from by simpa using hown7); have HW7 := Lib.hid (show Below w6.heap.size w6 w7 from (Below.refl _ _).grown hg7 (Nat.le_refl _) (fun k hk => by cases hk)); have HAT := Lib.hid hat7; clear hown7 hg7 hat7)
        | (at_builtin; refine wpList_appU rfl _ _ rfl (v := v7) (Y := A3) (m := n3) (c := c3) (xs := ys) (ys := zs) (n := n2) rfl rfl HO7.out (H3.out.below HB8.out) (by have := e2.out; omega) (by have := e3.out; omega) HB8.out.size ?_; intro v8 w8 hown8 hg8 hat8; obtain ⟨V, cv, rfl⟩ := own_slice hown8; have HB9 := Lib.hid (HB8.out.grown hg8 HB8.out.size (fun k hk => (HO7.out.lt k hk).1)); have HW8 := Lib.hid (show Below w6.heap.size w6 w8 from HW7.out.grown hg8 HW7.out.size (fun k hk => by rcases HAT.out with h | h <;> rw [h] at hk <;> cases hk; exact Nat.le_refl _)); have HV := Lib.hid (words_of_row (by rw [List.length_append, H2.out.1, H3.out.1]) hown8); have HX8 := Lib.hid (HX6.out.below HW8.out); have HY8 := Lib.hid (HY6.out.below HW8.out); clear hown8 hg8 hat8)
        | (go_at_call 38; first
            | (with_reducible refine (words_ne cy c2 Q1.out HY8.out (H2.out.below HB9.out) HLN.out (by have := e2.out; unfold maxLen; omega)).mono ?_; rintro e w9 ⟨rfl, hb⟩; have HV8 := Lib.hid HV.out; have HB10 := Lib.hid (HB9.out.trans (hb.mono HB9.out.size)); have HX9 := Lib.hid (HX8.out.below hb); have HY9 := Lib.hid (HY8.out.below hb); have HV9 := Lib.hid (HV8.out.below hb); clear hb)
            | (with_reducible refine (words_eq cx c1 rfl HX9.out (H1.out.below HB10.out) HLX.out).mono ?_; rintro e w10 ⟨rfl, hb⟩; have HB11 := Lib.hid (HB10.out.trans (hb.mono HB10.out.size)); have HX10 := Lib.hid (HX9.out.below hb); have HY10 := Lib.hid (HY9.out.below hb); have HV10 := Lib.hid (HV9.out.below hb); clear hb)
            | (with_reducible refine (words_eq cy cv Q2.out HY10.out HV10.out HLN.out).mono ?_; rintro e w11 ⟨rfl, hb⟩; have HB12 := Lib.hid (HB11.out.trans (hb.mono HB11.out.size)); have HX11 := Lib.hid (HX10.out.below hb); have HY11 := Lib.hid (HY10.out.below hb); have HV11 := Lib.hid (HV10.out.below hb); clear hb)))
      go_ret
      exact ⟨rfl, HB12.out⟩
end
end Go.Proofs.Ytdnoniolpplgiaa
