/- ExtentBack, walked: pages are told again of their extents; holes and extents together are all places. -/
import Derived.Test.YtefbhcpcbolbiaaBackLaw
import Derived.BigQuiet
namespace Go.Proofs.Ytefbhcpcbolbiaa
open Go.RowKit

theorem ints_of_nums {w : World} {base n c : Nat} {X : Option Addr} {zs : List Int} (hl : zs.length = n) (h : w.ownsRow base 3 1 (.slice X n c) n (zs.map (Value.int .i64))) : Ints w X n zs := by
  refine ⟨hl, ?_⟩
  rcases h.2 with ⟨_, h0⟩ | ⟨g, cap, cur, e, _⟩
  · left; exact List.length_eq_zero_iff.1 (by omega)
  · cases e
    right
    refine ⟨g, 0, rfl, (h.lt g rfl).2, fun i hi => ?_⟩
    rw [Nat.zero_add, h.cellAt _ (by omega), List.getElem?_map, List.getElem?_eq_getElem hi]; rfl

theorem below_drewN {b : Nat} {w w' : World} (h : Below b w w') (n : Nat) : Below b w (w'.drewN n) := by
  induction n with
  | zero => exact h
  | succ n ih => exact ih.drew

theorem holesL_len (xs : List E) (n : Int) : (holesL xs n).length ≤ xs.length + 1 := by
  have h : ∀ ys j, (holesN ys n j).1.length ≤ j := by
    intro ys j
    induction j with
    | zero => simp [holesN]
    | succ j ih =>
      unfold holesN
      split
      · omega
      · dsimp only
        split
        · rw [List.length_append, List.length_singleton]; omega
        · omega
  exact h _ _

/-- What the law asks for. -/
structure BackIn (w : World) (A B : Option Addr) (np nx cx : Nat) (ps : List Int) (xs : List E) : Prop where
  ints : Ints w A np ps
  exts : Exts w B nx xs
  mp : np ≤ maxLen
  mx : nx ≤ maxLen
  nil : B = none → cx = 0

set_option maxRecDepth 100000 in
set_option maxHeartbeats 8000000 in
theorem back_walk {A B : Option Addr} {np nx : Nat} {ps : List Int} {xs : List E} {w : World} (cp cx : Nat) (n : Int) (h : BackIn w A B np nx cx ps xs) : Calls Try.prog 5 #[.slice A np cp, .slice B nx cx, .int .i64 n] w fun e w' => e = .returned (.bool true) ∧ Below w.heap.size w w' := by
  have CA := Lib.hid (awake_any w)
  have CF0 : ∀ w', Below w.heap.size w w' → Calls Try.prog 7 #[.slice B nx cx] w' fun e w2 => e = .returned (.bool (fewB xs)) ∧ Below w'.heap.size w' w2 := fun w' hb => few_any cx (h.exts.below hb) h.mx
  have CF := Lib.hid CF0
  have CH0 : ∀ w', Below w.heap.size w w' → nx ≤ 400 → n ≤ 500 → Calls Try.prog 19 #[.slice B nx cx, .int .i64 n] w' (RowOf w'.heap.size (if rightB xs ∧ 1 ≤ n then holesL xs n else []) w') := fun w' hb h1 h2 => holes_any cx n (h.exts.below hb) h.nil h1 h2
  have CH := Lib.hid CH0
  have H := Lib.hid h
  have hlx : xs.length = nx := h.exts.1
  have hlp : ps.length = np := h.ints.1
  have mp := h.mp
  have mx := h.mx
  unfold maxLen at mp mx
  clear CF0 CH0 h
  by_cases hnp : (100 : Int) < np
  · go_enter Try.func5, Try.ntmps5
    go_wp2_with (first | (go_at_call 6; refine (CA.out).mono ?_; rintro e w1 ⟨rfl, hb1⟩))
    go_ret
    exact ⟨rfl, hb1⟩
  · cases hf : fewB xs with
    | false =>
      rw [hf] at CF
      go_enter Try.func5, Try.ntmps5
      go_wp2_with (first | (go_at_call 6; refine (CA.out).mono ?_; rintro e w1 ⟨rfl, hb1⟩) | (go_at_call 7; refine (CF.out _ hb1).mono ?_; rintro e w2 ⟨rfl, hb2⟩; have hbA := hb1.trans (hb2.mono hb1.size); clear hb1 hb2))
      go_ret
      exact ⟨rfl, hbA⟩
    | true =>
      rw [hf] at CF
      have hx30 : nx ≤ 30 := by
        unfold fewB at hf; rw [Bool.and_eq_true] at hf
        have := of_decide_eq_true hf.2; omega
      clear hf
      by_cases hn5 : 500 < n
      · go_enter Try.func5, Try.ntmps5
        go_wp2_with (first | (go_at_call 6; refine (CA.out).mono ?_; rintro e w1 ⟨rfl, hb1⟩) | (go_at_call 7; refine (CF.out _ hb1).mono ?_; rintro e w2 ⟨rfl, hb2⟩; have hbA := hb1.trans (hb2.mono hb1.size); clear hb1 hb2))
        go_ret
        exact ⟨rfl, hbA⟩
      · go_enter Try.func5, Try.ntmps5
        go_wp2_with (first | (go_at_call 6; refine (CA.out).mono ?_; rintro e w1 ⟨rfl, hb1⟩) | (go_at_call 7; refine (CF.out _ hb1).mono ?_; rintro e w2 ⟨rfl, hb2⟩; have hbA := hb1.trans (hb2.mono hb1.size); clear hb1 hb2))
        go_loopw [30] (fun c wr => ∃ j : Nat, j ≤ np ∧ c = .int .i64 j ∧ (∀ k q, k < j → ps[k]? = some q → 0 ≤ q ∧ q < 1048576) ∧ Below w.heap.size w wr) (fun c _ => np - (intOf c).toNat)
        case atStart => exact ⟨0, Nat.zero_le _, rfl, fun k q hk => absurd hk (Nat.not_lt_zero _), hbA⟩
        case round =>
          obtain ⟨j, hj, rfl, hall, hb⟩ := hrel
          have Hall := Lib.hid hall
          clear hall
          by_cases hlt : j < np
          · obtain ⟨b, off, rfl, hbl, p, hx, c0⟩ := (H.out.ints.below hb).at hlt
            have Hx := Lib.hid hx
            clear hx
            by_cases h0 : p < 0
            · go_wp2
              go_ret
              exact ⟨rfl, hb⟩
            · by_cases h1 : 1048576 ≤ p
              · go_wp2
                go_ret
                exact ⟨rfl, hb⟩
              · have hs : ∀ k q, k < j + 1 → ps[k]? = some q → 0 ≤ q ∧ q < 1048576 := by
                  intro k q hk hq
                  rcases Nat.lt_succ_iff_lt_or_eq.1 hk with h | rfl
                  · exact Hall.out k q h hq
                  · rw [Hx.out] at hq; cases hq; omega
                have Hs := Lib.hid hs
                clear hs
                go_wp2
                go_roundw
                case rel => exact ⟨j + 1, by omega, by go_num, Hs.out, hb⟩
                case measure => simp [intOf]; omega
          · have e : j = np := by omega
            have hge : ¬ (j : Int) < (np : Int) := by omega
            have hin : ∀ q ∈ ps, 0 ≤ q ∧ q < 1048576 := by
              intro q hq
              obtain ⟨k, hk⟩ := List.getElem?_of_mem hq
              exact Hall.out k q (by have := (List.getElem?_eq_some_iff.1 hk).1; omega) hk
            have Hin := Lib.hid hin
            have hog := (ofL_good hin (by omega)).1
            have hpo := pages_of hin (by omega)
            rw [hlp] at hpo
            have Hog := Lib.hid hog
            have Hpo := Lib.hid hpo
            have hlo : (ofL ps).length ≤ 100 := by have h1 := ofN_len ps ps.length; unfold ofL; omega
            clear e hlt hj hin hog hpo Hall CA CF hbA
            by_cases hp0 : (0 : Int) < np
            · cases hr : rightB xs with
              | false =>
                have Hr := Lib.hid hr
                have hcond : ¬ (rightB xs = true ∧ 1 ≤ n) := fun h => by rw [hr] at h; exact absurd h.1 (by simp)
                clear hr
                go_wp2_with (first
                  | (go_at_call 12; refine (of_any cp (H.out.ints.below hb) (by omega)).mono ?_; rintro e wa ⟨va, rfl, howna, hba⟩; obtain ⟨Xa, ca, rfl⟩ := own_slice howna; have hbA := hb.trans (hba.mono hb.size); have exA := Lib.hid (exts_of_row howna); clear howna hba)
                  | (go_at_call 14; with_reducible refine (right_any ca exA.out (by unfold maxLen; omega)).mono ?_; rintro e wb ⟨rfl, hbb⟩; rw [Hog.out]; have hbB := hbA.trans (hbb.mono hbA.size); have exB := Lib.hid (exA.out.below hbb); clear hbb)
                  | (go_at_call 9; refine (pages_any ca (np : Int) exB.out (by unfold maxLen; omega) (by omega)).mono ?_; rintro e wc ⟨vc, rfl, hownc, hbc⟩; rw [if_pos ⟨Hog.out, by omega⟩, Int.toNat_natCast, Hpo.out, hlp] at hownc; obtain ⟨Xc, cc, rfl⟩ := own_slice hownc; have hbC := hbB.trans (hbc.mono hbB.size); have inC := Lib.hid (ints_of_nums hlp hownc); clear hownc hbc)
                  | (go_at_call 18; refine (sameints_any cc cp inC.out (H.out.ints.below hbC) (by unfold maxLen; omega) (by unfold maxLen; omega)).mono ?_; rintro e wd ⟨rfl, hbd⟩; rw [decide_eq_true rfl]; have hbD := hbC.trans (hbd.mono hbC.size); clear hbd)
                  | (go_at_call 19; refine (CH.out _ hbD (by omega) (by omega)).mono ?_; rintro e we ⟨ve, rfl, howne, hbe⟩; rw [if_neg hcond] at howne; obtain ⟨Xe, ce, rfl⟩ := own_slice howne; have hbE := hbD.trans (hbe.mono hbD.size); have exE := Lib.hid (exts_of_row howne); clear howne hbe)
                  | (go_at_call 14; with_reducible refine (right_any cx (H.out.exts.below hbE) H.out.mx).mono ?_; rintro e wf ⟨rfl, hbf⟩; rw [Hr.out]; have hbF := hbE.trans (hbf.mono hbE.size); have exF := Lib.hid (exE.out.below hbf); clear hbf))
                go_ret
                exact ⟨rfl, hbF⟩
              | true =>
                have Hr := Lib.hid hr
                by_cases hn1 : 1 ≤ n
                · have hcond : rightB xs = true ∧ 1 ≤ n := ⟨hr, hn1⟩
                  have Hc := Lib.hid hcond
                  clear hr hcond
                  go_wp2_with (first
                    | (go_at_call 12; refine (of_any cp (H.out.ints.below hb) (by omega)).mono ?_; rintro e wa ⟨va, rfl, howna, hba⟩; obtain ⟨Xa, ca, rfl⟩ := own_slice howna; have hbA := hb.trans (hba.mono hb.size); have exA := Lib.hid (exts_of_row howna); clear howna hba)
                    | (go_at_call 14; with_reducible refine (right_any ca exA.out (by unfold maxLen; omega)).mono ?_; rintro e wb ⟨rfl, hbb⟩; rw [Hog.out]; have hbB := hbA.trans (hbb.mono hbA.size); have exB := Lib.hid (exA.out.below hbb); clear hbb)
                    | (go_at_call 9; refine (pages_any ca (np : Int) exB.out (by unfold maxLen; omega) (by omega)).mono ?_; rintro e wc ⟨vc, rfl, hownc, hbc⟩; rw [if_pos ⟨Hog.out, by omega⟩, Int.toNat_natCast, Hpo.out, hlp] at hownc; obtain ⟨Xc, cc, rfl⟩ := own_slice hownc; have hbC := hbB.trans (hbc.mono hbB.size); have inC := Lib.hid (ints_of_nums hlp hownc); clear hownc hbc)
                    | (go_at_call 18; refine (sameints_any cc cp inC.out (H.out.ints.below hbC) (by unfold maxLen; omega) (by unfold maxLen; omega)).mono ?_; rintro e wd ⟨rfl, hbd⟩; rw [decide_eq_true rfl]; have hbD := hbC.trans (hbd.mono hbC.size); clear hbd)
                    | (go_at_call 19; refine (CH.out _ hbD (by omega) (by omega)).mono ?_; rintro e we ⟨ve, rfl, howne, hbe⟩; rw [if_pos Hc.out] at howne; obtain ⟨Xe, ce, rfl⟩ := own_slice howne; have hbE := hbD.trans (hbe.mono hbD.size); have exE := Lib.hid (exts_of_row howne); clear howne hbe)
                    | (go_at_call 14; with_reducible refine (right_any cx (H.out.exts.below hbE) H.out.mx).mono ?_; rintro e wf ⟨rfl, hbf⟩; rw [Hr.out]; have hbF := hbE.trans (hbf.mono hbE.size); have exF := Lib.hid (exE.out.below hbf); clear hbf))
                  have HI := Lib.hid (holesL_is Hc.out.1 (n := n) ⟨hn1, by omega⟩)
                  have hhl : (holesL xs n).length ≤ 31 := by have := holesL_len xs n; omega
                  clear CH Hog Hpo
                  generalize holesL xs n = hs at *
                  go_loopw [11, 75] (fun s c wr => ∃ j : Nat, j ≤ hs.length ∧ c = .int .i64 j ∧ s = .int .i64 (sumB (hs.take j)) ∧ Below wf.heap.size wf wr) (fun _ c _ => hs.length - (intOf c).toNat)
                  case atStart => exact ⟨0, Nat.zero_le _, rfl, rfl, Below.refl _ _⟩
                  case round =>
                    obtain ⟨j, hj, rfl, rfl, hb⟩ := hrel
                    have hbw := hbF.trans (hb.mono hbF.size)
                    by_cases hlt : j < hs.length
                    · obtain ⟨b, off, rfl, hbl, x, hx, c0, c1, c2⟩ := (exF.out.below hb).at hlt
                      obtain ⟨q1, q2, q3, q4, q5⟩ := HI.out.1 x (List.mem_of_getElem? hx)
                      rw [q2] at c2
                      have hsn := sumB_snoc (hs.take j) x
                      rw [← take_snoc hx] at hsn
                      have Hs := Lib.hid hsn
                      have hA1 : pageB xs x.f = 0 := by unfold pageB; rw [if_pos Hr.out]; exact q5 _ (Int.le_refl _) (by omega)
                      have hA2 : pageB xs (x.f + x.l - 1) = 0 := by unfold pageB; rw [if_pos Hr.out]; exact q5 _ (by omega) (by omega)
                      have HA1 := Lib.hid hA1
                      have HA2 := Lib.hid hA2
                      have hba : Below w.heap.size w (wr.alloc (.cells #[.int .i64 x.f, .int .i64 x.l, .int .i64 0] 29)) := hbw.alloc hbw.size _
                      have hbx : Below wf.heap.size wf (wr.alloc (.cells #[.int .i64 x.f, .int .i64 x.l, .int .i64 0] 29)) := hb.alloc hb.size _
                      generalize sumB (hs.take j) = s at *
                      have z1 : decide (x.l < 1) = false := by rw [decide_eq_false_iff_not]; omega
                      have z2 : decide (x.f < 0) = false := by rw [decide_eq_false_iff_not]; omega
                      have z3 : decide (n < x.f + x.l) = false := by rw [decide_eq_false_iff_not]; omega
                      by_cases hj0 : 0 < j
                      · obtain ⟨b2, off2, eb, hbl2, g, hg, d0, d1, d2⟩ := (exF.out.below hbx).at (show j - 1 < hs.length by omega)
                        cases eb
                        obtain ⟨r1, r2, r3, r4, r5⟩ := HI.out.1 g (List.mem_of_getElem? hg)
                        have hlt2 := HI.out.2.1 (j - 1) g x hg (by rw [Nat.sub_add_cancel hj0]; exact hx)
                        clear hx hsn hA1 hA2 hg q5 r5 q2 r2
                        have z4 : decide ((0 : Int) < j) = true := by rw [decide_eq_true_iff]; omega
                        have z5 : decide (x.f ≤ g.f + g.l) = false := by rw [decide_eq_false_iff_not]; omega
                        go_upto_region 21 with fail
                        go_quiet (fail)
                        have HbN := Lib.hid (below_drewN hba nq)
                        have HbM := Lib.hid (below_drewN hbx nq)
                        go_wp2_with (go_at_call 15; first
                          | (with_reducible refine (at_any cx x.f (H.out.exts.below HbN.out) H.out.mx).mono ?_; rintro e wg ⟨rfl, hbg⟩; rw [HA1.out]; have hbG := HbN.out.trans (hbg.mono HbN.out.size); have hbGx := HbM.out.trans (hbg.mono HbM.out.size); have x0 : wg.cell? ⟨wr.heap.size, 0, none⟩ = some (.int .i64 x.f) := (hbg.cell (by simp)).trans (by go_simp); have x1 : wg.cell? ⟨wr.heap.size, 1, none⟩ = some (.int .i64 x.l) := (hbg.cell (by simp)).trans (by go_simp); clear hbg)
                          | (with_reducible refine (at_any cx (x.f + x.l - 1) (H.out.exts.below hbG) H.out.mx).mono ?_; rintro e wh ⟨rfl, hbh⟩; rw [HA2.out]; have hbH := hbGx.trans (hbh.mono hbGx.size); clear hbh))
                        go_roundw
                        case rel => exact ⟨j + 1, by omega, by go_num, by rw [Hs.out], hbH⟩
                        case measure => simp [intOf]; omega
                      · clear hx hsn hA1 hA2 q5 q2
                        have z4 : decide ((0 : Int) < j) = false := by rw [decide_eq_false_iff_not]; omega
                        go_upto_region 21 with fail
                        go_quiet (fail)
                        have HbN := Lib.hid (below_drewN hba nq)
                        have HbM := Lib.hid (below_drewN hbx nq)
                        go_wp2_with (go_at_call 15; first
                          | (with_reducible refine (at_any cx x.f (H.out.exts.below HbN.out) H.out.mx).mono ?_; rintro e wg ⟨rfl, hbg⟩; rw [HA1.out]; have hbG := HbN.out.trans (hbg.mono HbN.out.size); have hbGx := HbM.out.trans (hbg.mono HbM.out.size); have x0 : wg.cell? ⟨wr.heap.size, 0, none⟩ = some (.int .i64 x.f) := (hbg.cell (by simp)).trans (by go_simp); have x1 : wg.cell? ⟨wr.heap.size, 1, none⟩ = some (.int .i64 x.l) := (hbg.cell (by simp)).trans (by go_simp); clear hbg)
                          | (with_reducible refine (at_any cx (x.f + x.l - 1) (H.out.exts.below hbG) H.out.mx).mono ?_; rintro e wh ⟨rfl, hbh⟩; rw [HA2.out]; have hbH := hbGx.trans (hbh.mono hbGx.size); clear hbh))
                        go_roundw
                        case rel => exact ⟨j + 1, by omega, by go_num, by rw [Hs.out], hbH⟩
                        case measure => simp [intOf]; omega
                    · have e : j = hs.length := by omega
                      have et : hs.take j = hs := List.take_of_length_le (by omega)
                      have hge2 : ¬ (j : Int) < (hs.length : Int) := by omega
                      rw [et]
                      have hlb : ∀ h ∈ hs, 0 ≤ h.l ∧ h.l ≤ 1048576 := fun h hh => by obtain ⟨q1, q2, q3, q4, q5⟩ := HI.out.1 h hh; omega
                      rw [sumB_is hlb (by omega)]
                      have hcg := (cutL_good Hc.out.1 (n := n) (by omega)).1
                      have hcl := cutL_len xs n
                      have hcs : sumB (cutL xs n) = sumZ (cutL xs n) := sumB_is (fun y hy => by have := oneB_bounds (rightB_mem hcg hy); omega) (by omega)
                      have hsum := HI.out.2.2
                      have hb0 := (sumZ_bounds hlb).1
                      have hb1 := (sumZ_bounds (xs := cutL xs n) (fun y hy => by have := oneB_bounds (rightB_mem hcg hy); omega)).1
                      have Hcg := Lib.hid hcg
                      have Hcs := Lib.hid hcs
                      clear e et hlt hj hcg hcs hlb
                      go_wp2_with (first
                        | (go_at_call 20; refine (cut_any cx n (H.out.exts.below hbw) (by omega) Hc.out.1 (by omega)).mono ?_; rintro e wg ⟨vg, rfl, howng, hbg⟩; obtain ⟨Xg, cg, rfl⟩ := own_slice howng; have hbG := hbw.trans (hbg.mono hbw.size); have exG := Lib.hid (exts_of_row howng); clear howng hbg)
                        | (go_at_call 16; refine (len_any cg exG.out (by unfold maxLen; omega)).mono ?_; rintro e wh ⟨rfl, hbh⟩; rw [Hcg.out, if_pos rfl, Hcs.out]; have hbH := hbG.trans (hbh.mono hbG.size); clear hbh))
                      go_ret
                      exact ⟨by simp, hbH⟩
                · have hcond : ¬ (rightB xs = true ∧ 1 ≤ n) := fun h => hn1 h.2
                  have Hc := Lib.hid hcond
                  clear hr hcond
                  go_wp2_with (first
                    | (go_at_call 12; refine (of_any cp (H.out.ints.below hb) (by omega)).mono ?_; rintro e wa ⟨va, rfl, howna, hba⟩; obtain ⟨Xa, ca, rfl⟩ := own_slice howna; have hbA := hb.trans (hba.mono hb.size); have exA := Lib.hid (exts_of_row howna); clear howna hba)
                    | (go_at_call 14; with_reducible refine (right_any ca exA.out (by unfold maxLen; omega)).mono ?_; rintro e wb ⟨rfl, hbb⟩; rw [Hog.out]; have hbB := hbA.trans (hbb.mono hbA.size); have exB := Lib.hid (exA.out.below hbb); clear hbb)
                    | (go_at_call 9; refine (pages_any ca (np : Int) exB.out (by unfold maxLen; omega) (by omega)).mono ?_; rintro e wc ⟨vc, rfl, hownc, hbc⟩; rw [if_pos ⟨Hog.out, by omega⟩, Int.toNat_natCast, Hpo.out, hlp] at hownc; obtain ⟨Xc, cc, rfl⟩ := own_slice hownc; have hbC := hbB.trans (hbc.mono hbB.size); have inC := Lib.hid (ints_of_nums hlp hownc); clear hownc hbc)
                    | (go_at_call 18; refine (sameints_any cc cp inC.out (H.out.ints.below hbC) (by unfold maxLen; omega) (by unfold maxLen; omega)).mono ?_; rintro e wd ⟨rfl, hbd⟩; rw [decide_eq_true rfl]; have hbD := hbC.trans (hbd.mono hbC.size); clear hbd)
                    | (go_at_call 19; refine (CH.out _ hbD (by omega) (by omega)).mono ?_; rintro e we ⟨ve, rfl, howne, hbe⟩; rw [if_neg Hc.out] at howne; obtain ⟨Xe, ce, rfl⟩ := own_slice howne; have hbE := hbD.trans (hbe.mono hbD.size); have exE := Lib.hid (exts_of_row howne); clear howne hbe)
                    | (go_at_call 14; with_reducible refine (right_any cx (H.out.exts.below hbE) H.out.mx).mono ?_; rintro e wf ⟨rfl, hbf⟩; rw [Hr.out]; have hbF := hbE.trans (hbf.mono hbE.size); have exF := Lib.hid (exE.out.below hbf); clear hbf))
                  go_ret
                  exact ⟨rfl, hbF⟩
            · cases hr : rightB xs with
              | false =>
                have Hr := Lib.hid hr
                have hcond : ¬ (rightB xs = true ∧ 1 ≤ n) := fun h => by rw [hr] at h; exact absurd h.1 (by simp)
                clear hr
                go_wp2_with (first
                  | (go_at_call 12; refine (of_any cp (H.out.ints.below hb) (by omega)).mono ?_; rintro e wa ⟨va, rfl, howna, hba⟩; obtain ⟨Xa, ca, rfl⟩ := own_slice howna; have hbA := hb.trans (hba.mono hb.size); have exA := Lib.hid (exts_of_row howna); clear howna hba)
                  | (go_at_call 14; with_reducible refine (right_any ca exA.out (by unfold maxLen; omega)).mono ?_; rintro e wb ⟨rfl, hbb⟩; rw [Hog.out]; have hbB := hbA.trans (hbb.mono hbA.size); have exB := Lib.hid (exA.out.below hbb); clear hbb)
                  | (go_at_call 19; refine (CH.out _ hbB (by omega) (by omega)).mono ?_; rintro e we ⟨ve, rfl, howne, hbe⟩; rw [if_neg hcond] at howne; obtain ⟨Xe, ce, rfl⟩ := own_slice howne; have hbE := hbB.trans (hbe.mono hbB.size); have exE := Lib.hid (exts_of_row howne); clear howne hbe)
                  | (go_at_call 14; with_reducible refine (right_any cx (H.out.exts.below hbE) H.out.mx).mono ?_; rintro e wf ⟨rfl, hbf⟩; rw [Hr.out]; have hbF := hbE.trans (hbf.mono hbE.size); have exF := Lib.hid (exE.out.below hbf); clear hbf))
                go_ret
                exact ⟨rfl, hbF⟩
              | true =>
                have Hr := Lib.hid hr
                by_cases hn1 : 1 ≤ n
                · have hcond : rightB xs = true ∧ 1 ≤ n := ⟨hr, hn1⟩
                  have Hc := Lib.hid hcond
                  clear hr hcond
                  go_wp2_with (first
                    | (go_at_call 12; refine (of_any cp (H.out.ints.below hb) (by omega)).mono ?_; rintro e wa ⟨va, rfl, howna, hba⟩; obtain ⟨Xa, ca, rfl⟩ := own_slice howna; have hbA := hb.trans (hba.mono hb.size); have exA := Lib.hid (exts_of_row howna); clear howna hba)
                    | (go_at_call 14; with_reducible refine (right_any ca exA.out (by unfold maxLen; omega)).mono ?_; rintro e wb ⟨rfl, hbb⟩; rw [Hog.out]; have hbB := hbA.trans (hbb.mono hbA.size); have exB := Lib.hid (exA.out.below hbb); clear hbb)
                    | (go_at_call 19; refine (CH.out _ hbB (by omega) (by omega)).mono ?_; rintro e we ⟨ve, rfl, howne, hbe⟩; rw [if_pos Hc.out] at howne; obtain ⟨Xe, ce, rfl⟩ := own_slice howne; have hbE := hbB.trans (hbe.mono hbB.size); have exE := Lib.hid (exts_of_row howne); clear howne hbe)
                    | (go_at_call 14; with_reducible refine (right_any cx (H.out.exts.below hbE) H.out.mx).mono ?_; rintro e wf ⟨rfl, hbf⟩; rw [Hr.out]; have hbF := hbE.trans (hbf.mono hbE.size); have exF := Lib.hid (exE.out.below hbf); clear hbf))
                  have HI := Lib.hid (holesL_is Hc.out.1 (n := n) ⟨hn1, by omega⟩)
                  have hhl : (holesL xs n).length ≤ 31 := by have := holesL_len xs n; omega
                  clear CH Hog Hpo
                  generalize holesL xs n = hs at *
                  go_loopw [11, 75] (fun s c wr => ∃ j : Nat, j ≤ hs.length ∧ c = .int .i64 j ∧ s = .int .i64 (sumB (hs.take j)) ∧ Below wf.heap.size wf wr) (fun _ c _ => hs.length - (intOf c).toNat)
                  case atStart => exact ⟨0, Nat.zero_le _, rfl, rfl, Below.refl _ _⟩
                  case round =>
                    obtain ⟨j, hj, rfl, rfl, hb⟩ := hrel
                    have hbw := hbF.trans (hb.mono hbF.size)
                    by_cases hlt : j < hs.length
                    · obtain ⟨b, off, rfl, hbl, x, hx, c0, c1, c2⟩ := (exF.out.below hb).at hlt
                      obtain ⟨q1, q2, q3, q4, q5⟩ := HI.out.1 x (List.mem_of_getElem? hx)
                      rw [q2] at c2
                      have hsn := sumB_snoc (hs.take j) x
                      rw [← take_snoc hx] at hsn
                      have Hs := Lib.hid hsn
                      have hA1 : pageB xs x.f = 0 := by unfold pageB; rw [if_pos Hr.out]; exact q5 _ (Int.le_refl _) (by omega)
                      have hA2 : pageB xs (x.f + x.l - 1) = 0 := by unfold pageB; rw [if_pos Hr.out]; exact q5 _ (by omega) (by omega)
                      have HA1 := Lib.hid hA1
                      have HA2 := Lib.hid hA2
                      have hba : Below w.heap.size w (wr.alloc (.cells #[.int .i64 x.f, .int .i64 x.l, .int .i64 0] 29)) := hbw.alloc hbw.size _
                      have hbx : Below wf.heap.size wf (wr.alloc (.cells #[.int .i64 x.f, .int .i64 x.l, .int .i64 0] 29)) := hb.alloc hb.size _
                      generalize sumB (hs.take j) = s at *
                      have z1 : decide (x.l < 1) = false := by rw [decide_eq_false_iff_not]; omega
                      have z2 : decide (x.f < 0) = false := by rw [decide_eq_false_iff_not]; omega
                      have z3 : decide (n < x.f + x.l) = false := by rw [decide_eq_false_iff_not]; omega
                      by_cases hj0 : 0 < j
                      · obtain ⟨b2, off2, eb, hbl2, g, hg, d0, d1, d2⟩ := (exF.out.below hbx).at (show j - 1 < hs.length by omega)
                        cases eb
                        obtain ⟨r1, r2, r3, r4, r5⟩ := HI.out.1 g (List.mem_of_getElem? hg)
                        have hlt2 := HI.out.2.1 (j - 1) g x hg (by rw [Nat.sub_add_cancel hj0]; exact hx)
                        clear hx hsn hA1 hA2 hg q5 r5 q2 r2
                        have z4 : decide ((0 : Int) < j) = true := by rw [decide_eq_true_iff]; omega
                        have z5 : decide (x.f ≤ g.f + g.l) = false := by rw [decide_eq_false_iff_not]; omega
                        go_upto_region 21 with fail
                        go_quiet (fail)
                        have HbN := Lib.hid (below_drewN hba nq)
                        have HbM := Lib.hid (below_drewN hbx nq)
                        go_wp2_with (go_at_call 15; first
                          | (with_reducible refine (at_any cx x.f (H.out.exts.below HbN.out) H.out.mx).mono ?_; rintro e wg ⟨rfl, hbg⟩; rw [HA1.out]; have hbG := HbN.out.trans (hbg.mono HbN.out.size); have hbGx := HbM.out.trans (hbg.mono HbM.out.size); have x0 : wg.cell? ⟨wr.heap.size, 0, none⟩ = some (.int .i64 x.f) := (hbg.cell (by simp)).trans (by go_simp); have x1 : wg.cell? ⟨wr.heap.size, 1, none⟩ = some (.int .i64 x.l) := (hbg.cell (by simp)).trans (by go_simp); clear hbg)
                          | (with_reducible refine (at_any cx (x.f + x.l - 1) (H.out.exts.below hbG) H.out.mx).mono ?_; rintro e wh ⟨rfl, hbh⟩; rw [HA2.out]; have hbH := hbGx.trans (hbh.mono hbGx.size); clear hbh))
                        go_roundw
                        case rel => exact ⟨j + 1, by omega, by go_num, by rw [Hs.out], hbH⟩
                        case measure => simp [intOf]; omega
                      · clear hx hsn hA1 hA2 q5 q2
                        have z4 : decide ((0 : Int) < j) = false := by rw [decide_eq_false_iff_not]; omega
                        go_upto_region 21 with fail
                        go_quiet (fail)
                        have HbN := Lib.hid (below_drewN hba nq)
                        have HbM := Lib.hid (below_drewN hbx nq)
                        go_wp2_with (go_at_call 15; first
                          | (with_reducible refine (at_any cx x.f (H.out.exts.below HbN.out) H.out.mx).mono ?_; rintro e wg ⟨rfl, hbg⟩; rw [HA1.out]; have hbG := HbN.out.trans (hbg.mono HbN.out.size); have hbGx := HbM.out.trans (hbg.mono HbM.out.size); have x0 : wg.cell? ⟨wr.heap.size, 0, none⟩ = some (.int .i64 x.f) := (hbg.cell (by simp)).trans (by go_simp); have x1 : wg.cell? ⟨wr.heap.size, 1, none⟩ = some (.int .i64 x.l) := (hbg.cell (by simp)).trans (by go_simp); clear hbg)
                          | (with_reducible refine (at_any cx (x.f + x.l - 1) (H.out.exts.below hbG) H.out.mx).mono ?_; rintro e wh ⟨rfl, hbh⟩; rw [HA2.out]; have hbH := hbGx.trans (hbh.mono hbGx.size); clear hbh))
                        go_roundw
                        case rel => exact ⟨j + 1, by omega, by go_num, by rw [Hs.out], hbH⟩
                        case measure => simp [intOf]; omega
                    · have e : j = hs.length := by omega
                      have et : hs.take j = hs := List.take_of_length_le (by omega)
                      have hge2 : ¬ (j : Int) < (hs.length : Int) := by omega
                      rw [et]
                      have hlb : ∀ h ∈ hs, 0 ≤ h.l ∧ h.l ≤ 1048576 := fun h hh => by obtain ⟨q1, q2, q3, q4, q5⟩ := HI.out.1 h hh; omega
                      rw [sumB_is hlb (by omega)]
                      have hcg := (cutL_good Hc.out.1 (n := n) (by omega)).1
                      have hcl := cutL_len xs n
                      have hcs : sumB (cutL xs n) = sumZ (cutL xs n) := sumB_is (fun y hy => by have := oneB_bounds (rightB_mem hcg hy); omega) (by omega)
                      have hsum := HI.out.2.2
                      have hb0 := (sumZ_bounds hlb).1
                      have hb1 := (sumZ_bounds (xs := cutL xs n) (fun y hy => by have := oneB_bounds (rightB_mem hcg hy); omega)).1
                      have Hcg := Lib.hid hcg
                      have Hcs := Lib.hid hcs
                      clear e et hlt hj hcg hcs hlb
                      go_wp2_with (first
                        | (go_at_call 20; refine (cut_any cx n (H.out.exts.below hbw) (by omega) Hc.out.1 (by omega)).mono ?_; rintro e wg ⟨vg, rfl, howng, hbg⟩; obtain ⟨Xg, cg, rfl⟩ := own_slice howng; have hbG := hbw.trans (hbg.mono hbw.size); have exG := Lib.hid (exts_of_row howng); clear howng hbg)
                        | (go_at_call 16; refine (len_any cg exG.out (by unfold maxLen; omega)).mono ?_; rintro e wh ⟨rfl, hbh⟩; rw [Hcg.out, if_pos rfl, Hcs.out]; have hbH := hbG.trans (hbh.mono hbG.size); clear hbh))
                      go_ret
                      exact ⟨by simp, hbH⟩
                · have hcond : ¬ (rightB xs = true ∧ 1 ≤ n) := fun h => hn1 h.2
                  have Hc := Lib.hid hcond
                  clear hr hcond
                  go_wp2_with (first
                    | (go_at_call 12; refine (of_any cp (H.out.ints.below hb) (by omega)).mono ?_; rintro e wa ⟨va, rfl, howna, hba⟩; obtain ⟨Xa, ca, rfl⟩ := own_slice howna; have hbA := hb.trans (hba.mono hb.size); have exA := Lib.hid (exts_of_row howna); clear howna hba)
                    | (go_at_call 14; with_reducible refine (right_any ca exA.out (by unfold maxLen; omega)).mono ?_; rintro e wb ⟨rfl, hbb⟩; rw [Hog.out]; have hbB := hbA.trans (hbb.mono hbA.size); have exB := Lib.hid (exA.out.below hbb); clear hbb)
                    | (go_at_call 19; refine (CH.out _ hbB (by omega) (by omega)).mono ?_; rintro e we ⟨ve, rfl, howne, hbe⟩; rw [if_neg Hc.out] at howne; obtain ⟨Xe, ce, rfl⟩ := own_slice howne; have hbE := hbB.trans (hbe.mono hbB.size); have exE := Lib.hid (exts_of_row howne); clear howne hbe)
                    | (go_at_call 14; with_reducible refine (right_any cx (H.out.exts.below hbE) H.out.mx).mono ?_; rintro e wf ⟨rfl, hbf⟩; rw [Hr.out]; have hbF := hbE.trans (hbf.mono hbE.size); have exF := Lib.hid (exE.out.below hbf); clear hbf))
                  go_ret
                  exact ⟨rfl, hbF⟩
end Go.Proofs.Ytefbhcpcbolbiaa
