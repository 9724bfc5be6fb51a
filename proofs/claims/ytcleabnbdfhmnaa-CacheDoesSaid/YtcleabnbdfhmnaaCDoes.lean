/- The law CacheDoes, walked. -/
import Derived.Test.YtcleabnbdfhmnaaDoesC
namespace Go.Proofs.Ytcleabnbdfhmnaa
open Go.RowKit Go.Maps Go.Sort Go.Shelf



set_option maxRecDepth 100000 in
set_option maxHeartbeats 16000000 in
theorem doesC_walk {A B : Option Addr} {m lb : Nat} {xs bs : List Int} {w : World} (n : Int) (cap capb : Nat) (h : Ints w A m xs) (hx : ∀ z ∈ xs, W64 z) (hB : BytesAt w B lb bs) (hm : m ≤ maxLen) (hmb : lb ≤ maxLen) : Calls Try.prog 5 #[.int .i64 n, .slice A m cap, .slice B lb capb] w fun e w' => e = .returned (.bool true) ∧ Below w.heap.size w w' := by
  have CA := Lib.hid (awakeC_any w)
  have H := Lib.hid h
  have HX := Lib.hid hx
  have HBY := Lib.hid hB
  have hmk := make255
  unfold maxLen at hm hmb
  clear h hx hB
  by_cases hg : (80 : Int) < m ∨ (300 : Int) < lb
  · go_enter Try.func5, Try.ntmps5
    go_wp2_with (first
      | (go_at_call 17; refine (CA.out).mono ?_; rintro e w1 ⟨rfl, hb1⟩))
    all_goals first | (go_ret; exact ⟨rfl, hb1⟩) | (exfalso; omega)
  · have hm4 : ¬ (80 : Int) < m := fun h => hg (.inl h)
    have hm5 : ¬ (300 : Int) < lb := fun h => hg (.inr h)
    clear hg
    go_enter Try.func5, Try.ntmps5
    go_wp2_with (first
      | (go_at_call 17; refine (CA.out).mono ?_; rintro e w1 ⟨rfl, hb1⟩)
      | (go_at_call 18; refine (newC_any _ _).mono ?_; rintro e w2 ⟨t, b, rfl, hT, hb2, ht, hbb⟩; have HT := Lib.hid (show DI w w2 t b 0 0 (min (max n 8) 256) 0 [] none 0 from ⟨⟨0, hT, Nat.le_refl _⟩, by have := hT.mb; simp; omega, Int.le_refl _, rfl, IdS.nil _ _, (fun a h => by cases h), hb1.trans (hb2.mono hb1.size)⟩); have hbs : w.heap.size ≤ b := Nat.le_trans hb1.size hbb; have hts : w.heap.size ≤ t := Nat.le_trans hb1.size ht; clear hT hb2))
    generalize min (max n 8) 256 = most at *
    go_loopw [9, 10, 42] (fun v la k wr => ∃ (j m9 c : Nat) (last : Int) (es : List Pg) (X : Option Addr), j ≤ m ∧ k = .int .i64 j ∧ v = .slice X m9 c ∧ la = .int .i64 last ∧ DI w wr t b j m9 most last es X c) (fun _ _ k _ => m - (intOf k).toNat)
    case atStart => exact ⟨0, 0, 0, 0, [], none, Nat.zero_le _, rfl, rfl, rfl, HT.out⟩
    case round =>
      obtain ⟨j, m9, c, last, es, X, hj, rfl, rfl, rfl, hR⟩ := hrel
      have HR := Lib.hid hR
      have hbr := hR.bel
      have hfw := hR.few
      have hls := hR.ls
      clear hR
      by_cases hlt : j < m
      · obtain ⟨g, off, rfl, hgl, x, hxj, c0⟩ := (H.out.below hbr).at hlt
        have hwx := HX.out x (List.mem_of_getElem? hxj)
        clear hxj
        go_upto_if 47 with fail
        go_cut [9, 10] (fun v la wx => ∃ (m5 c5 : Nat) (last5 : Int) (es5 : List Pg) (X5 : Option Addr), v = .slice X5 m5 c5 ∧ la = .int .i64 last5 ∧ DI w wx t b (j + 1) m5 most last5 es5 X5 c5)
        case first =>
          by_cases hx0 : 0 ≤ x
          · obtain ⟨i0, hi, hz0, hz1, hz2⟩ := info_parts Try.info5
            obtain ⟨nn, hC, hnj⟩ := HR.out.cache
            have HC := Lib.hid hC
            have htl := hC.tl
            have hbl := hC.map.lt
            have hl0 := hfw.2.2.2.1
            have hl1 : last ≤ 80 := by omega
            have hrow := fun y hy => (hC.rows y hy).2.1
            have HROW := Lib.hid hrow
            clear hC hrow
            go_upto_region 14 with (at_builtin; refine wpList_append_own _ rfl _ _ 37 rfl wr.heap.size 5 i0 (.int .u8 0) 1 1 Try.underlying37 hi hz0 hz1 hz2 rfl (by decide) _ 255 (zs255.map (Value.int .u8)) rfl ((own255 (Nat.le_refl _)).alloc _) ⟨wr.heap.size + 1, 0, none⟩ 1 1 [.int .u8 (x % 256)] rfl rfl ?c1 ?c2 ?c3 ?c4 ?c5 ?_)
            case c1 => exact one_news (wr.alloc (.cells (madeCells #[.int .u8 0] 255) 5)) (.int .u8 (x % 256)) 5 _ (by simp)
            case c2 => intro u hu; rw [List.mem_singleton] at hu; subst hu; rfl
            case c3 => unfold maxLen; omega
            case c4 => omega
            case c5 => simp; omega
            intro v' w3 hown3 hgrow3 _
            obtain ⟨P, cP, rfl, hP1, hP2, hPB, hPc, hPf⟩ := own_page hown3
            have hb3 : Below wr.heap.size wr w3 := (((Below.refl _ _).alloc (Nat.le_refl _) _).alloc (by simp) _).grown hgrow3 (by simp; omega) (fun k hk => by cases hk; exact Nat.le_refl _)
            have HPB := Lib.hid hPB
            have HPC := Lib.hid hPc
            have HPF := Lib.hid hPf
            clear hown3 hgrow3 hPB hPc hPf hi hz0 hz1 hz2
            have hPt : P ≠ t := by omega
            have hPb : P ≠ b := by omega
            have hPy : ∀ y ∈ es, y.g ≠ P := fun y hy => by have := HROW.out y hy; omega
            have HPY := Lib.hid hPy
            have hXP : ∀ a, X = some a → a.block ≠ P := fun a ha => by have := (HR.out.far a ha).2.2.2; omega
            have HXP := Lib.hid hXP
            have hw0 : w.heap.size ≤ P := Nat.le_trans hbr.size hP1
            clear hPy hXP
            by_cases hr : (m9 : Int) < most
            · as_aux_lemma =>
              go_upto_region 20 with (first
                | (go_at_call 19; refine (put_any (HC.out.below hb3) cP HPB.out (by rw [HR.out.len]; exact hr) (by omega) (by omega) (by rintro a ⟨⟩; exact hPb) (by rintro a ⟨⟩; exact hPt)).mono ?_; rintro e w4 ⟨g4, c4, rfl, hC4, hk4, hg4⟩; have HC4 := Lib.hid hC4; have HK4 := Lib.hid hk4; clear hC4 hk4)
                | (at_builtin; refine wpList_appI rfl _ _ rfl w.heap.size X m9 c (es.map Pg.id) rfl (some ⟨w4.heap.size, 0, none⟩) 1 1 [last + 1] rfl (((HR.out.ids.below hb3).kept2 HK4.out (fun a ha => (HR.out.far a ha).1) (fun a ha => (HR.out.far a ha).2.1)).below ((Below.refl _ _).alloc (Nat.le_refl _) _)) (one_ints w4 (last + 1) 3 _ rfl) (.inr ⟨_, _, rfl⟩) (by omega) ?c6 ?_))
              case c6 =>
                have := hbr.size
                have := hb3.size
                have := HK4.out.size
                simp
                omega
              intro X5 c5 w5 hI5 hX5 hg5
              have HD5 := Lib.hid (HR.out.put (o := .cells #[.int .i64 (last + 1)] 3) hb3 HC4.out hnj HK4.out hg4 hI5 (by rcases hX5 with h | ⟨q, h, h2⟩; (exact .inl h); exact .inr ⟨q, h, by simpa using h2⟩) hg5 hr hts hbs HR.out.ids.base_le)
              have hP4 := (HK4.out.cell (a := ⟨P, 255, none⟩) hP2 hPt hPb).trans HPC.out
              have hF4 := (HK4.out.frozen (a := ⟨P, 255, none⟩) hP2 hPt hPb).trans HPF.out
              have hP4l := Nat.lt_of_lt_of_le hP2 HK4.out.size
              have hba : Below w4.heap.size w4 (w4.alloc (.cells #[.int .i64 (last + 1)] 3)) := (Below.refl _ _).alloc (Nat.le_refl _) _
              have hPX : some P ≠ X.map Addr.block := by
                intro e
                cases X with
                | none => cases e
                | some a => simp at e; exact HXP.out a rfl e.symm
              have hP5 := hg5.cell ((hba.cell (p := ⟨P, 255, none⟩) hP4l).trans hP4) hPX
              have hF5 : w5.frozen? ⟨P, 255, none⟩ = false := (World.frozen?_of_block (hg5.block P (Nat.lt_of_lt_of_le hP4l hba.size) hPX)).trans ((frozen_below hba hP4l).trans hF4)
              have hX5P : ∀ a, X5 = some a → a.block ≠ P := by
                intro a ha
                rcases hX5 with h | ⟨q, h, hq⟩
                · exact HXP.out a (by rw [← h]; exact ha)
                · rw [h] at ha; cases ha
                  have := HK4.out.size
                  simp only
                  omega
              have hY5 : ∀ y ∈ es ++ [⟨last + 1, g4, c4, zs255 ++ [x % 256]⟩], y.g ≠ P := by
                intro y hy
                rcases List.mem_append.1 hy with hy | hy
                · exact HPY.out y hy
                · rw [List.mem_singleton] at hy; subst hy; simp only; omega
              have HD6 := Lib.hid (fun v => HD5.out.store (P := P) (off := 255) (v := v) hPt hPb hY5 hX5P hw0)
              clear hI5 hX5 hg5 HD5 hP4 hF4 hP4l hba hPX hX5P hY5 HPC HPF HPB HC HC4 HK4
              go_wp2_with (go_at_call 20; refine ((HD6.out _).getYes (y := ⟨last + 1, g4, c4, zs255 ++ [x % 256]⟩) (by simp) rfl).mono ?_; rintro e w7 ⟨P7, c7, rfl, hP7, hD7⟩; have HD7 := Lib.hid hD7; clear hD7)
              go_meet
              exact ⟨_, _, _, _, _, rfl, rfl, HD7.out⟩
            · as_aux_lemma =>
              have hid0 : es.any (fun y => y.id == 0) = false := by
                rw [List.any_eq_false]
                intro y hy e
                have := HC.out.wf y hy
                have : y.id = 0 := by simpa using e
                omega
              have HID0 := Lib.hid hid0
              clear hid0
              go_upto_region 20 with (first
                | (go_at_call 19; refine (put_full (HC.out.below hb3) _ _ _ (by rw [HR.out.len]; exact hr)).mono ?_; rintro e w4 ⟨rfl, hb4⟩))
              have hP5 := (hb4.cell (p := ⟨P, 255, none⟩) hP2).trans HPC.out
              have hF5 := (frozen_below hb4 (a := ⟨P, 255, none⟩) hP2).trans HPF.out
              have HD5 := Lib.hid (((HR.out.below hb3).below hb4).mono (Nat.le_succ j))
              have HD6 := Lib.hid (fun v => HD5.out.store (P := P) (off := 255) (v := v) hPt hPb HPY.out HXP.out hw0)
              clear HD5 HPC HPF HPB HC
              go_wp2_with (go_at_call 20; refine ((HD6.out _).getNo HID0.out).mono ?_; rintro e w7 ⟨v7, rfl, hD7⟩; have HD7 := Lib.hid hD7; clear hD7)
              go_meet
              exact ⟨_, _, _, _, _, rfl, rfl, HD7.out⟩
          · have hx1 : ¬ 0 ≤ x := hx0
            have hnw : W64 (wrap64 (-x)) := by unfold W64 wrap64; omega
            generalize hnx : wrap64 (-x) = nx at *
            go_wp2
            go_loop [18, 121] (fun kk u => ∃ i : Nat, i ≤ m9 ∧ u = .int .i64 i ∧ kk = .int .i64 (atI (es.map Pg.id) nx i)) (fun _ u => m9 - (intOf u).toNat)
            case atStart => exact ⟨0, Nat.zero_le _, rfl, rfl⟩
            case round =>
              obtain ⟨i, hin, rfl, rfl⟩ := hrel
              by_cases hli : i < m9
              · obtain ⟨g2, off2, rfl, hgl2, y, hy, f0⟩ := HR.out.ids.rd.at hli
                have Hat := Lib.hid (atI_at (k := nx) hy)
                clear hy
                by_cases hw : y = nx
                · have hwb : (y == nx) = true := by simp [hw]
                  generalize atI (es.map Pg.id) nx i = av at *
                  go_wp2
                  go_round
                  case rel => exact ⟨i + 1, by omega, by go_num, by rw [Hat.out, if_pos hw]⟩
                  case measure => simp [intOf]; omega
                · have hwb : (y == nx) = false := by simp [hw]
                  generalize atI (es.map Pg.id) nx i = av at *
                  go_wp2
                  go_round
                  case rel => exact ⟨i + 1, by omega, by go_num, by rw [Hat.out, if_neg hw]⟩
                  case measure => simp [intOf]; omega
              · obtain rfl : i = m9 := by omega
                obtain ⟨hf1, hf2, hf3, hf4⟩ := HR.out.find nx
                have HF3 := Lib.hid hf3
                have HF4 := Lib.hid hf4
                clear hf3 hf4 hin hli
                generalize hav : atI (es.map Pg.id) nx i = av at *
                clear hav
                by_cases hk : av = -1
                · subst hk
                  have HN := Lib.hid (HF4.out rfl)
                  clear HF3 HF4
                  go_wp2_with (go_at_call 21; refine (HR.out.dropNo hnw HN.out).mono ?_; rintro e w3 ⟨rfl, hD⟩; have HD := Lib.hid hD; clear hD)
                  go_meet
                  exact ⟨_, _, _, _, _, rfl, rfl, HD.out⟩
                · obtain ⟨q, rfl⟩ : ∃ q : Nat, av = q := ⟨av.toNat, by omega⟩
                  obtain ⟨y, hy, hyn, bx, ofx, rfl⟩ := HF3.out q rfl
                  subst hyn
                  have HQ := Lib.hid hy
                  have hcap := HR.out.ids.cap
                  clear HF3 HF4 hy
                  have hq0 : (0 : Int) ≤ (q : Int) := by omega
                  have hq1 : (q : Int) ≤ (c : Int) := by omega
                  have hq2 : (q : Int) + 1 ≤ (i : Int) := by omega
                  have hq3 : (q : Int) + 1 ≤ (c : Int) := by omega
                  have hq4 : (0 : Int) ≤ (q : Int) + 1 := by omega
                  have hwq : IntKind.i64.wrap ((q : Int) + 1) = (q : Int) + 1 := by rw [IntWalk.i64_left]; unfold wrap64; omega
                  have hnc : (i : Int) ≤ (c : Int) := by omega
                  go_upto_region 34 with (go_at_call 21; refine (HR.out.dropC HQ.out hbs).mono ?_; rintro e w3 ⟨rfl, hD⟩; have HD := Lib.hid hD; clear hD)
                  have hsz3 := HD.out.bel.size
                  go_region_held3 (fun w' => w3.grownBy w' (some bx))
                    (first | exact grownBy_of (Below.refl _ _).drew | exact grown_trans (by assumption) hb5 | assumption | exact grown_trans (grownBy_of (Below.refl _ _).drew) hb5)
                    ((first | (refine step_appI rfl _ _ rfl w.heap.size (some ⟨bx, ofx, none⟩) q q ((es.map Pg.id).take q) rfl _ (i - (q + 1)) _ ((es.map Pg.id).drop (q + 1)) rfl ((HD.out.below (by exact (Below.refl _ _).drew)).head) ((HD.out.below (by exact (Below.refl _ _).drew)).tail) (tail_formI _ _ _ _) (by omega) (by exact hsz3) ?_; intro X5 c5 w5 hS5 hX5 hb5)))
                  have hH : w3.grownBy w5 (some bx) := by assumption
                  have HD5 := Lib.hid (HD.out.cut hS5 (by rcases hX5 with h | ⟨g, h, h2⟩; (exact .inl h); exact .inr ⟨g, h, h2⟩) hH)
                  clear hS5 hX5 hb5 hH
                  generalize q + (i - (q + 1)) = m5 at *
                  generalize (if c = q + 1 then some (⟨bx, ofx, none⟩ : Addr) else some ⟨bx, ofx + (q + 1), none⟩) = Yd at *
                  go_wp2
                  go_meet
                  exact ⟨_, _, _, _, _, rfl, rfl, HD5.out⟩
        case rest =>
          obtain ⟨m5, c5, last5, es5, X5, rfl, rfl, hD⟩ := hcut
          have HD := Lib.hid hD
          have hf5 := hD.few
          have hm50 := hf5.1
          have hm51 := hf5.2.1
          have hm52 := hf5.2.2.1
          have hl5 := hf5.2.2.2.2
          clear hf5 HR hls hfw hbr
          cases es5 with
          | nil =>
            have h50 : m5 = 0 := by rw [← hl5]; rfl
            subst h50
            have hr0 : (0 : Int) < most := by omega
            clear hl5 hD hm50
            as_aux_lemma =>
              go_wp2_with (first
                | (go_at_call 22; refine (HD.out.eldestC).mono ?_; rintro e w3 ⟨rfl, hD3⟩; have HD3 := Lib.hid hD3; clear hD3)
                | (go_at_call 23; refine (HD3.out.idsC).mono ?_; rintro e w4 ⟨X4, c4, rfl, hI4, hD4⟩; have HD4 := Lib.hid hD4; have HI4 := Lib.hid hI4; clear hD4 hI4)
                | (go_at_call 13; refine (HD4.out.sameC c4 HI4.out).mono ?_; rintro e w5 ⟨rfl, hD5⟩; have HD5 := Lib.hid hD5; clear hD5)
                | (go_at_call 24; refine (HD5.out.lenC).mono ?_; rintro e w' ⟨rfl, hw⟩; rw [hw]; clear hw w')
                | (go_at_call 25; refine (HD5.out.mostC).mono ?_; rintro e w' ⟨rfl, hw⟩; rw [hw]; clear hw w')
                | (go_at_call 26; refine (HD5.out.roomC (r := true) (by simpa using hr0)).mono ?_; rintro e w6 ⟨rfl, hD6⟩; have HD6 := Lib.hid hD6; clear hD6))
              go_roundw
              case rel => exact ⟨j + 1, _, _, _, _, _, by omega, by go_num, rfl, rfl, HD6.out⟩
              case measure => simp [intOf]; omega
          | cons y l =>
            have h51 : (0 : Int) < (m5 : Int) := by rw [← hl5, List.length_cons]; omega
            have h52 : 0 < m5 := by omega
            obtain ⟨bx, ofx, rfl⟩ : ∃ bx ofx, X5 = some ⟨bx, ofx, none⟩ := by
              rcases hD.ids.rd.2 with h2 | ⟨b2, off2, e, _⟩
              · cases h2
              · exact ⟨b2, off2, e⟩
            clear hl5 hD
            by_cases hr : (m5 : Int) < most
            · clear hm50
              as_aux_lemma =>
                go_wp2_with (first
                  | (go_at_call 22; refine (HD.out.eldestC).mono ?_; rintro e w3 ⟨rfl, hD3⟩; have HD3 := Lib.hid hD3; clear hD3)
                  | (go_at_call 23; refine (HD3.out.idsC).mono ?_; rintro e w4 ⟨X4, c4, rfl, hI4, hD4⟩; have HD4 := Lib.hid hD4; have HI4 := Lib.hid hI4; clear hD4 hI4)
                  | (go_at_call 13; refine (HD4.out.sameC c4 HI4.out).mono ?_; rintro e w5 ⟨rfl, hD5⟩; have c00 := ints_at0 hD5.ids.rd; have HD5 := Lib.hid hD5; clear hD5)
                  | (go_at_call 24; refine (HD5.out.lenC).mono ?_; rintro e w' ⟨rfl, hw⟩; rw [hw]; clear hw w')
                  | (go_at_call 25; refine (HD5.out.mostC).mono ?_; rintro e w' ⟨rfl, hw⟩; rw [hw]; clear hw w')
                  | (go_at_call 26; refine (HD5.out.roomC (r := true) (by simpa using hr)).mono ?_; rintro e w6 ⟨rfl, hD6⟩; have HD6 := Lib.hid hD6; clear hD6))
                go_roundw
                case rel => exact ⟨j + 1, _, _, _, _, _, by omega, by go_num, rfl, rfl, HD6.out⟩
                case measure => simp [intOf]; omega
            ·
              as_aux_lemma =>
                go_wp2_with (first
                  | (go_at_call 22; refine (HD.out.eldestC).mono ?_; rintro e w3 ⟨rfl, hD3⟩; have HD3 := Lib.hid hD3; clear hD3)
                  | (go_at_call 23; refine (HD3.out.idsC).mono ?_; rintro e w4 ⟨X4, c4, rfl, hI4, hD4⟩; have HD4 := Lib.hid hD4; have HI4 := Lib.hid hI4; clear hD4 hI4)
                  | (go_at_call 13; refine (HD4.out.sameC c4 HI4.out).mono ?_; rintro e w5 ⟨rfl, hD5⟩; have c00 := ints_at0 hD5.ids.rd; have HD5 := Lib.hid hD5; clear hD5)
                  | (go_at_call 24; refine (HD5.out.lenC).mono ?_; rintro e w' ⟨rfl, hw⟩; rw [hw]; clear hw w')
                  | (go_at_call 25; refine (HD5.out.mostC).mono ?_; rintro e w' ⟨rfl, hw⟩; rw [hw]; clear hw w')
                  | (go_at_call 26; refine (HD5.out.roomC (r := false) (by simpa using hr)).mono ?_; rintro e w6 ⟨rfl, hD6⟩; have HD6 := Lib.hid hD6; clear hD6))
                go_roundw
                case rel => exact ⟨j + 1, _, _, _, _, _, by omega, by go_num, rfl, rfl, HD6.out⟩
                case measure => simp [intOf]; omega
      · have hge : ¬ (j : Int) < (m : Int) := by omega
        have hj9 : j < 1000 := by omega
        clear hlt hj
        have hf5 := hfw.1
        clear hfw hls hbr
        have hbb : ((lb : Int) == 256) = decide (lb = 256) := by rw [Bool.eq_iff_iff]; simp; omega
        go_wp2_with (go_at_call 19; refine (HR.out.lastPut capb HBY.out hj9 hts hbs).mono ?_; rintro e w5 ⟨k5, rfl, hb5⟩)
        all_goals (go_ret; exact ⟨rfl, hb5⟩)
end Go.Proofs.Ytcleabnbdfhmnaa
