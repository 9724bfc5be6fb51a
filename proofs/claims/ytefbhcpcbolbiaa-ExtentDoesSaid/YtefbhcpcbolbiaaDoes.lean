/- ExtentDoes, walked: the extents of any pages, the pages of any extents, and whether these are right. -/
import Derived.Test.YtefbhcpcbolbiaaFind
import Derived.Test.YtefbhcpcbolbiaaAwake
import Derived.Test.YtefbhcpcbolbiaaSame
namespace Go.Proofs.Ytefbhcpcbolbiaa
open Go.RowKit

theorem keep1 {w w1 w2 : World} {g o : Nat} {u : Value} (hg : g < w.heap.size) (h : w1.cell? ⟨g, o, none⟩ = some u ∧ Below w.heap.size w w1) (k : Below w1.heap.size w1 w2) : w2.cell? ⟨g, o, none⟩ = some u ∧ Below w.heap.size w w2 := by
  have hs := h.2.size
  exact ⟨(k.cell (Nat.lt_of_lt_of_le hg hs)).trans h.1, h.2.trans (k.mono hs)⟩

/-- What the law asks for. -/
structure DoesIn (w : World) (A B : Option Addr) (np nx : Nat) (ps : List Int) (xs : List E) : Prop where
  ints : Ints w A np ps
  exts : Exts w B nx xs
  mp : np ≤ maxLen
  mx : nx ≤ maxLen
  small : ∀ p ∈ ps, p < 9223372036854775808

set_option maxRecDepth 100000 in
set_option maxHeartbeats 8000000 in
theorem does_walk {A B : Option Addr} {np nx : Nat} {ps : List Int} {xs : List E} {w : World} (cp cx : Nat) (i n : Int) (h : DoesIn w A B np nx ps xs) : Calls Try.prog 3 #[.slice A np cp, .slice B nx cx, .int .i64 i, .int .i64 n] w fun e w' => e = .returned (.bool true) ∧ Below w.heap.size w w' := by
  have CA := Lib.hid (awake_any w)
  have CF0 : ∀ w', Below w.heap.size w w' → Calls Try.prog 7 #[.slice B nx cx] w' fun e w2 => e = .returned (.bool (fewB xs)) ∧ Below w'.heap.size w' w2 := fun w' hb => few_any cx (h.exts.below hb) h.mx
  have CF := Lib.hid CF0
  have CR0 : ∀ w', Below w.heap.size w w' → Calls Try.prog 8 #[.slice B nx cx] w' fun e w2 => e = .returned (.bool (rightB xs)) ∧ Below w'.heap.size w' w2 := fun w' hb => rightref_any cx (h.exts.below hb) h.mx
  have CR := Lib.hid CR0
  have H := Lib.hid h
  have hm := h.mp
  have hmx := h.mx
  unfold maxLen at hm hmx
  have hlx : xs.length = nx := h.exts.1
  clear CF0 CR0 h
  by_cases hpre : fewB xs = true ∧ np ≤ 100 ∧ n ≤ 500
  · obtain ⟨hf, hnp, hn⟩ := hpre
    rw [hf] at CF
    clear hf
    have CP0 : ∀ w', Below w.heap.size w w' → Calls Try.prog 9 #[.slice B nx cx, .int .i64 n] w' (NumsOf w'.heap.size (if rightB xs ∧ 1 ≤ n then pagesL xs n.toNat else []) w') := fun w' hb => pages_any cx n (H.out.exts.below hb) H.out.mx (by omega)
    have hnp0 : ¬ (100 : Int) < (np : Int) := by omega
    by_cases hr : rightB xs = true ∧ 1 ≤ n
    · rw [if_pos hr] at CP0
      have CP := Lib.hid CP0
      clear CP0
      obtain ⟨hr, hn1⟩ := hr
      rw [hr] at CR
      obtain ⟨m, rfl⟩ : ∃ m : Nat, n = m := ⟨n.toNat, by omega⟩
      rw [Int.toNat_natCast] at CP
      have Hr := Lib.hid hr
      clear hr
      go_enter Try.func3, Try.ntmps3
      go_wp2_with (first | (go_at_call 6; refine (CA.out).mono ?_; rintro e w1 ⟨rfl, hb1⟩) | (go_at_call 7; refine (CF.out _ hb1).mono ?_; rintro e w2 ⟨rfl, hb2⟩; have hbA := hb1.trans (hb2.mono hb1.size); clear hb1 hb2) | (go_at_call 8; refine (CR.out _ hbA).mono ?_; rintro e w3 ⟨rfl, hb3⟩; have hbB := hbA.trans (hb3.mono hbA.size); clear hbA hb3) | (go_at_call 9; refine (CP.out _ hbB).mono ?_; rintro e w4 ⟨v, rfl, hown, hb4⟩; have hbC := hbB.trans (hb4.mono hbB.size); rw [pagesL_len] at hown; obtain ⟨X, c, rfl⟩ := own_slice hown; clear hbB hb4; have Hown := Lib.hid hown; clear hown))
      go_loopw [45] (fun kk wr => ∃ k : Nat, k ≤ m ∧ kk = .int .i64 k ∧ Below w4.heap.size w4 wr) (fun kk _ => m - (intOf kk).toNat)
      case atStart => exact ⟨0, Nat.zero_le _, rfl, Below.refl _ _⟩
      case round =>
        obtain ⟨k, hk, rfl, hb⟩ := hrel
        have hbw := hbC.trans (hb.mono hbC.size)
        by_cases hlt : k < m
        · obtain ⟨g, rfl⟩ : ∃ g, X = some ⟨g, 0, none⟩ := by
            rcases Hown.out.2 with ⟨_, h⟩ | ⟨g, cap, cur, e, _⟩
            · omega
            · cases e; exact ⟨g, rfl⟩
          have hg := Hown.out.lt g rfl
          have d0 : wr.cell? ⟨g, k, none⟩ = some (.int .i64 (pageB xs k)) := by
            rw [hb.cell hg.2, Hown.out.cellAt _ (by omega), List.getElem?_map, pagesL_get Hr.out hlt]; rfl
          have CQ0 : ∀ w', Below wr.heap.size wr w' → Calls Try.prog 10 #[.slice B nx cx, .int .i64 k] w' fun e w2 => e = .returned (.int .i64 (pageB xs k)) ∧ Below w'.heap.size w' w2 := fun w' hb' => pageof_any cx k (H.out.exts.below (hbw.trans (hb'.mono hbw.size))) H.out.mx
          have CQ := Lib.hid CQ0
          have hgr : g < wr.heap.size := Nat.lt_of_lt_of_le hg.2 hb.size
          have hk0 : (0 : Int) ≤ (k : Int) := by omega
          have hk1 : (k : Int) < (m : Int) := by omega
          clear CQ0
          generalize pageB xs k = q at *
          go_upto_region 13 with fail
          go_region_held3 (fun w' => w'.cell? ⟨g, k, none⟩ = some (.int .i64 q) ∧ Below wr.heap.size wr w')
            (first | (refine ⟨?_, ?_⟩ <;> first | exact (Below.refl _ _).drew | go_keep) | exact keep1 hgr (by assumption) hb9)
            ((go_at_call 10; refine (CQ.out _ (by first | exact (Below.refl _ _).drew | exact And.right (by assumption))).mono ?_; rintro e w9 ⟨rfl, hb9⟩))
          have HS : w9.cell? ⟨g, k, none⟩ = some (.int .i64 q) ∧ Below wr.heap.size wr w9 := by assumption
          have hbX := hb.trans (HS.2.mono hb.size)
          go_wp2
          go_roundw
          case rel => exact ⟨k + 1, by omega, by go_num, hbX⟩
          case measure => simp [intOf]; omega
        · have e : k = m := by omega
          have hge : ¬ (k : Int) < (m : Int) := by omega
          clear hlt hk e
          go_wp2
          go_loopw [12, 62] (fun s c wr => ∃ j : Nat, j ≤ nx ∧ c = .int .i64 j ∧ s = .int .i64 (sumB (xs.take j)) ∧ Below w.heap.size w wr) (fun _ c _ => nx - (intOf c).toNat)
          case atStart => exact ⟨0, Nat.zero_le _, rfl, rfl, hbw⟩
          case round =>
            obtain ⟨j, hj, rfl, rfl, hb⟩ := hrel
            by_cases hlt : j < nx
            · obtain ⟨b, off, rfl, hbl, x, hx, c0, c1, c2⟩ := (H.out.exts.below hb).at hlt
              have hs := sumB_snoc (xs.take j) x
              rw [← take_snoc hx] at hs
              have Hs := Lib.hid hs
              clear hs
              generalize sumB (xs.take j) = s at *
              clear hx
              go_wp2
              go_roundw
              case rel => exact ⟨j + 1, by omega, by go_num, by rw [Hs.out], hb.alloc hb.size _⟩
              case measure => simp [intOf]; omega
            · have e : j = nx := by omega
              have et : xs.take j = xs := List.take_of_length_le (by omega)
              have hge : ¬ (j : Int) < (nx : Int) := by omega
              try rw [et]
              have C12 := Lib.hid (of_any cp (H.out.ints.below hb) (by omega))
              have heq := Lib.hid (of_is_ext H.out.small (by rw [H.out.ints.1]; omega))
              have hlo : (ofL ps).length ≤ 100 := by have h1 := ofN_len ps ps.length; have h2 := H.out.ints.1; unfold ofL; omega
              have hle : (extL ps).length ≤ 100 := by have h1 := extN_len ps ps.length; have h2 := H.out.ints.1; unfold extL; omega
              clear e et hlt hj
              generalize hpB : pageB xs i = pB at *
              clear CA CF CR CP
              go_wp2_with (first
                | (go_at_call 12; refine (C12.out).mono ?_; rintro e wa ⟨va, rfl, howna, hba⟩; obtain ⟨Xa, ca, rfl⟩ := own_slice howna; have hbA := hb.trans (hba.mono hb.size); have exA := exts_of_row howna; clear howna hba)
                | (go_at_call 13; refine (extents_any cp (H.out.ints.below hbA) (by omega)).mono ?_; rintro e wb ⟨vb, rfl, hownb, hbb⟩; obtain ⟨Xb, cb, rfl⟩ := own_slice hownb; have hbB := hbA.trans (hbb.mono hbA.size); have exB := exts_of_row hownb; have exA2 := exA.below hbb; clear hownb hbb exA)
                | (go_at_call 11; refine (same_any _ _ exA2 exB (by unfold maxLen; omega) (by unfold maxLen; omega)).mono ?_; rintro e wc ⟨rfl, hbc⟩; rw [decide_eq_true heq.out]; have hbC := hbB.trans (hbc.mono hbB.size); clear hbc exA2 exB)
                | (go_at_call 14; refine (right_any cx (H.out.exts.below hbC) H.out.mx).mono ?_; rintro e wd ⟨rfl, hbd⟩; rw [Hr.out]; have hbD := hbC.trans (hbd.mono hbC.size); clear hbd)
                | (go_at_call 15; refine (at_any cx i (H.out.exts.below hbD) H.out.mx).mono ?_; rintro e we ⟨rfl, hbe⟩; rw [hpB]; have hbE := hbD.trans (hbe.mono hbD.size); clear hbe)
                | (go_at_call 10; refine (pageof_any cx i (H.out.exts.below hbE) H.out.mx).mono ?_; rintro e wf ⟨rfl, hbf⟩; rw [hpB]; have hbF := hbE.trans (hbf.mono hbE.size); clear hbf)
                | (go_at_call 16; refine (len_any cx (H.out.exts.below hbF) H.out.mx).mono ?_; rintro e wg ⟨rfl, hbg⟩; rw [Hr.out]; have hbG := hbF.trans (hbg.mono hbF.size); clear hbg))
              go_ret
              exact ⟨rfl, hbG⟩
    · rw [if_neg hr] at CP0
      have CP := Lib.hid CP0
      clear CP0
      cases hr2 : rightB xs with
      | true =>
        have hn1 : ¬ (1 : Int) ≤ n := fun h => hr ⟨hr2, h⟩
        rw [hr2] at CR
        have Hr := Lib.hid hr2
        clear hr hr2
        go_enter Try.func3, Try.ntmps3
        go_wp2_with (first | (go_at_call 6; refine (CA.out).mono ?_; rintro e w1 ⟨rfl, hb1⟩) | (go_at_call 7; refine (CF.out _ hb1).mono ?_; rintro e w2 ⟨rfl, hb2⟩; have hbA := hb1.trans (hb2.mono hb1.size); clear hb1 hb2) | (go_at_call 8; refine (CR.out _ hbA).mono ?_; rintro e w3 ⟨rfl, hb3⟩; have hbB := hbA.trans (hb3.mono hbA.size); clear hbA hb3) | (go_at_call 9; refine (CP.out _ hbB).mono ?_; rintro e w4 ⟨v, rfl, hown, hb4⟩; have hbw := hbB.trans (hb4.mono hbB.size); rw [List.length_nil] at hown; obtain ⟨X, c, rfl⟩ := own_slice hown; clear hbB hb4; clear hown))
        go_loopw [12, 62] (fun s c wr => ∃ j : Nat, j ≤ nx ∧ c = .int .i64 j ∧ s = .int .i64 (sumB (xs.take j)) ∧ Below w.heap.size w wr) (fun _ c _ => nx - (intOf c).toNat)
        case atStart => exact ⟨0, Nat.zero_le _, rfl, rfl, hbw⟩
        case round =>
          obtain ⟨j, hj, rfl, rfl, hb⟩ := hrel
          by_cases hlt : j < nx
          · obtain ⟨b, off, rfl, hbl, x, hx, c0, c1, c2⟩ := (H.out.exts.below hb).at hlt
            have hs := sumB_snoc (xs.take j) x
            rw [← take_snoc hx] at hs
            have Hs := Lib.hid hs
            clear hs
            generalize sumB (xs.take j) = s at *
            clear hx
            go_wp2
            go_roundw
            case rel => exact ⟨j + 1, by omega, by go_num, by rw [Hs.out], hb.alloc hb.size _⟩
            case measure => simp [intOf]; omega
          · have e : j = nx := by omega
            have et : xs.take j = xs := List.take_of_length_le (by omega)
            have hge : ¬ (j : Int) < (nx : Int) := by omega
            try rw [et]
            have C12 := Lib.hid (of_any cp (H.out.ints.below hb) (by omega))
            have heq := Lib.hid (of_is_ext H.out.small (by rw [H.out.ints.1]; omega))
            have hlo : (ofL ps).length ≤ 100 := by have h1 := ofN_len ps ps.length; have h2 := H.out.ints.1; unfold ofL; omega
            have hle : (extL ps).length ≤ 100 := by have h1 := extN_len ps ps.length; have h2 := H.out.ints.1; unfold extL; omega
            clear e et hlt hj
            generalize hpB : pageB xs i = pB at *
            clear CA CF CR CP
            go_wp2_with (first
              | (go_at_call 12; refine (C12.out).mono ?_; rintro e wa ⟨va, rfl, howna, hba⟩; obtain ⟨Xa, ca, rfl⟩ := own_slice howna; have hbA := hb.trans (hba.mono hb.size); have exA := exts_of_row howna; clear howna hba)
              | (go_at_call 13; refine (extents_any cp (H.out.ints.below hbA) (by omega)).mono ?_; rintro e wb ⟨vb, rfl, hownb, hbb⟩; obtain ⟨Xb, cb, rfl⟩ := own_slice hownb; have hbB := hbA.trans (hbb.mono hbA.size); have exB := exts_of_row hownb; have exA2 := exA.below hbb; clear hownb hbb exA)
              | (go_at_call 11; refine (same_any _ _ exA2 exB (by unfold maxLen; omega) (by unfold maxLen; omega)).mono ?_; rintro e wc ⟨rfl, hbc⟩; rw [decide_eq_true heq.out]; have hbC := hbB.trans (hbc.mono hbB.size); clear hbc exA2 exB)
              | (go_at_call 14; refine (right_any cx (H.out.exts.below hbC) H.out.mx).mono ?_; rintro e wd ⟨rfl, hbd⟩; rw [Hr.out]; have hbD := hbC.trans (hbd.mono hbC.size); clear hbd)
              | (go_at_call 15; refine (at_any cx i (H.out.exts.below hbD) H.out.mx).mono ?_; rintro e we ⟨rfl, hbe⟩; rw [hpB]; have hbE := hbD.trans (hbe.mono hbD.size); clear hbe)
              | (go_at_call 10; refine (pageof_any cx i (H.out.exts.below hbE) H.out.mx).mono ?_; rintro e wf ⟨rfl, hbf⟩; rw [hpB]; have hbF := hbE.trans (hbf.mono hbE.size); clear hbf)
              | (go_at_call 16; refine (len_any cx (H.out.exts.below hbF) H.out.mx).mono ?_; rintro e wg ⟨rfl, hbg⟩; rw [Hr.out]; have hbG := hbF.trans (hbg.mono hbF.size); clear hbg))
            go_ret
            exact ⟨rfl, hbG⟩
      | false =>
        rw [hr2] at CR
        have Hr := Lib.hid hr2
        clear hr hr2
        go_enter Try.func3, Try.ntmps3
        go_wp2_with (first | (go_at_call 6; refine (CA.out).mono ?_; rintro e w1 ⟨rfl, hb1⟩) | (go_at_call 7; refine (CF.out _ hb1).mono ?_; rintro e w2 ⟨rfl, hb2⟩; have hbA := hb1.trans (hb2.mono hb1.size); clear hb1 hb2) | (go_at_call 8; refine (CR.out _ hbA).mono ?_; rintro e w3 ⟨rfl, hb3⟩; have hbB := hbA.trans (hb3.mono hbA.size); clear hbA hb3) | (go_at_call 9; refine (CP.out _ hbB).mono ?_; rintro e w4 ⟨v, rfl, hown, hb4⟩; have hbw := hbB.trans (hb4.mono hbB.size); rw [List.length_nil] at hown; obtain ⟨X, c, rfl⟩ := own_slice hown; clear hbB hb4; clear hown))
        go_loopw [12, 62] (fun s c wr => ∃ j : Nat, j ≤ nx ∧ c = .int .i64 j ∧ s = .int .i64 0 ∧ Below w.heap.size w wr) (fun _ c _ => nx - (intOf c).toNat)
        case atStart => exact ⟨0, Nat.zero_le _, rfl, rfl, hbw⟩
        case round =>
          obtain ⟨j, hj, rfl, rfl, hb⟩ := hrel
          by_cases hlt : j < nx
          · obtain ⟨b, off, rfl, hbl, x, hx, c0, c1, c2⟩ := (H.out.exts.below hb).at hlt
            clear CA
            clear hx
            go_wp2
            go_roundw
            case rel => exact ⟨j + 1, by omega, by go_num, rfl, hb.alloc hb.size _⟩
            case measure => simp [intOf]; omega
          · have e : j = nx := by omega
            have et : xs.take j = xs := List.take_of_length_le (by omega)
            have hge : ¬ (j : Int) < (nx : Int) := by omega
            try rw [et]
            have C12 := Lib.hid (of_any cp (H.out.ints.below hb) (by omega))
            have heq := Lib.hid (of_is_ext H.out.small (by rw [H.out.ints.1]; omega))
            have hlo : (ofL ps).length ≤ 100 := by have h1 := ofN_len ps ps.length; have h2 := H.out.ints.1; unfold ofL; omega
            have hle : (extL ps).length ≤ 100 := by have h1 := extN_len ps ps.length; have h2 := H.out.ints.1; unfold extL; omega
            clear e et hlt hj
            generalize hpB : pageB xs i = pB at *
            clear CA CF CR CP
            go_wp2_with (first
              | (go_at_call 12; refine (C12.out).mono ?_; rintro e wa ⟨va, rfl, howna, hba⟩; obtain ⟨Xa, ca, rfl⟩ := own_slice howna; have hbA := hb.trans (hba.mono hb.size); have exA := exts_of_row howna; clear howna hba)
              | (go_at_call 13; refine (extents_any cp (H.out.ints.below hbA) (by omega)).mono ?_; rintro e wb ⟨vb, rfl, hownb, hbb⟩; obtain ⟨Xb, cb, rfl⟩ := own_slice hownb; have hbB := hbA.trans (hbb.mono hbA.size); have exB := exts_of_row hownb; have exA2 := exA.below hbb; clear hownb hbb exA)
              | (go_at_call 11; refine (same_any _ _ exA2 exB (by unfold maxLen; omega) (by unfold maxLen; omega)).mono ?_; rintro e wc ⟨rfl, hbc⟩; rw [decide_eq_true heq.out]; have hbC := hbB.trans (hbc.mono hbB.size); clear hbc exA2 exB)
              | (go_at_call 14; refine (right_any cx (H.out.exts.below hbC) H.out.mx).mono ?_; rintro e wd ⟨rfl, hbd⟩; rw [Hr.out]; have hbD := hbC.trans (hbd.mono hbC.size); clear hbd)
              | (go_at_call 15; refine (at_any cx i (H.out.exts.below hbD) H.out.mx).mono ?_; rintro e we ⟨rfl, hbe⟩; rw [hpB]; have hbE := hbD.trans (hbe.mono hbD.size); clear hbe)
              | (go_at_call 10; refine (pageof_any cx i (H.out.exts.below hbE) H.out.mx).mono ?_; rintro e wf ⟨rfl, hbf⟩; rw [hpB]; have hbF := hbE.trans (hbf.mono hbE.size); clear hbf)
              | (go_at_call 16; refine (len_any cx (H.out.exts.below hbF) H.out.mx).mono ?_; rintro e wg ⟨rfl, hbg⟩; rw [Hr.out]; have hbG := hbF.trans (hbg.mono hbF.size); clear hbg))
            go_ret
            exact ⟨rfl, hbG⟩
  · go_enter Try.func3, Try.ntmps3
    by_cases hf : fewB xs = true
    · rw [hf] at CF
      by_cases hnp : (100 : Int) < np
      · clear hpre
        go_wp2_with (first | (go_at_call 6; refine (CA.out).mono ?_; rintro e w1 ⟨rfl, hb1⟩) | (go_at_call 7; refine (CF.out _ hb1).mono ?_; rintro e w2 ⟨rfl, hb2⟩; have hbA := hb1.trans (hb2.mono hb1.size); clear hb1 hb2))
        go_ret
        exact ⟨rfl, hbA⟩
      · have hn : (500 : Int) < n := Int.not_le.1 (fun h => hpre ⟨hf, by omega, h⟩)
        clear hpre
        go_wp2_with (first | (go_at_call 6; refine (CA.out).mono ?_; rintro e w1 ⟨rfl, hb1⟩) | (go_at_call 7; refine (CF.out _ hb1).mono ?_; rintro e w2 ⟨rfl, hb2⟩; have hbA := hb1.trans (hb2.mono hb1.size); clear hb1 hb2))
        go_ret
        exact ⟨rfl, hbA⟩
    · rw [Bool.not_eq_true] at hf
      rw [hf] at CF
      clear hpre
      go_wp2_with (first | (go_at_call 6; refine (CA.out).mono ?_; rintro e w1 ⟨rfl, hb1⟩) | (go_at_call 7; refine (CF.out _ hb1).mono ?_; rintro e w2 ⟨rfl, hb2⟩; have hbA := hb1.trans (hb2.mono hb1.size); clear hb1 hb2))
      go_ret
      exact ⟨rfl, hbA⟩
end Go.Proofs.Ytefbhcpcbolbiaa
