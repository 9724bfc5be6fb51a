/- The law GeomPlaces of package sumplaw06: where things stand on any device, and any root. The walk. -/
import Derived.Test.YtkakhjaaakophaaGeom
import Derived.Deep.DeepCutAuto
import Derived.OpenShut
namespace Go.Proofs.Ytkakhjaaakophaa
open Go.RowKit

theorem bcell {W w1 : World} (hb : Below W.heap.size W w1) : (∀ b o, b < W.heap.size → w1.cell? ⟨b, o, none⟩ = W.cell? ⟨b, o, none⟩) ∧ (∀ b o, b < W.heap.size → w1.frozen? ⟨b, o, none⟩ = W.frozen? ⟨b, o, none⟩) :=
  ⟨fun b o h => hb.cell (p := ⟨b, o, none⟩) h, fun b o h => hb.frozen (p := ⟨b, o, none⟩) h⟩
theorem below_drewN {B : Nat} {a w : World} (h : Below B a w) (n : Nat) : Below B a (w.drewN n) := ⟨h.os, h.tape, h.output, h.size, h.block⟩
theorem below_next {w a b : World} (h : Below w.heap.size w a) (k : Below a.heap.size a b) : Below w.heap.size w b := h.trans (k.mono h.size)

/-- Twice the epoch, and 1 more for bank 1. -/
def rootOf (e k : Int) : Int := 2 * e + if k = 1 then 1 else 0

/-- Whether an epoch is out of bounds. -/
def outB (e : Int) : Bool := decide (e < 0 ∨ 1099511627776 < e)
theorem outB_yes {e : Int} (h : e < 0 ∨ 1099511627776 < e) : outB e = true := by unfold outB; simpa using h
theorem outB_no {e : Int} (h0 : 0 ≤ e) (h1 : e ≤ 1099511627776) : outB e = false := by unfold outB; simp; omega
theorem outB_out {e : Int} (h : ¬ outB e = true) : 0 ≤ e ∧ e ≤ 1099511627776 := by unfold outB at h; simp at h; omega

theorem rootOf_not {e k : Int} (hk : ¬ k = 1) : rootOf e k = 2 * e := by unfold rootOf; rw [if_neg hk, Int.add_zero]
/-- Whether a root is somebody's; whose epoch, whose bank. -/
def okB (r : Int) : Bool := decide (r / 2 ≤ 1099511627776)
def epE (r : Int) : Int := if okB r then r / 2 else 0
def epB (r : Int) : Int := if okB r then r % 2 else 0
theorem okB_yes {r : Int} (h : r / 2 ≤ 1099511627776) : okB r = true := by unfold okB; simpa using h
theorem okB_no {r : Int} (h : ¬ r / 2 ≤ 1099511627776) : okB r = false := by unfold okB; simpa using h

theorem epoch_any (r : Int) (w : World) (h0 : 0 ≤ r) (h1 : r < 18446744073709551616) :
    Calls Try.prog 15 #[.int .u64 r] w fun en w' => en = .returned (.tuple #[.int .i64 (epE r), .int .i64 (epB r), .bool (okB r)]) ∧ w = w' := by
  unfold epE epB
  by_cases h : r / 2 ≤ 1099511627776
  · rw [okB_yes h]; exact epoch_yes r w h0 h1 h
  · rw [okB_no h]; exact epoch_no r w h0 h1 (by omega)

theorem root_any (e k : Int) (w : World) (h0 : 0 ≤ e) (h1 : e ≤ 1099511627776) :
    Calls Try.prog 16 #[.int .i64 e, .int .i64 k] w fun en w' => en = .returned (.int .u64 (rootOf e k)) ∧ w = w' := by
  unfold rootOf
  by_cases hk : k = 1
  · subst hk; exact root_one e w h0 h1
  · rw [if_neg hk, Int.add_zero]; exact root_not e k w h0 h1 (by simpa using hk)

set_option maxHeartbeats 3200000 in
set_option maxRecDepth 100000 in
theorem places_in (n k p e r b i l d : Int) (w : World) (Hof : ∀ w, Calls Try.prog 17 #[.int .i64 n] w fun e w' => e = .returned (.tuple #[gv n b i l d, .bool true]) ∧ Below w.heap.size w w')
    (Href : ∀ w, Calls Try.prog 29 #[.int .i64 n] w fun e w' => e = .returned (.tuple #[gv n b i l d, .bool true]) ∧ Below w.heap.size w w')
    (n0 : 64 ≤ n) (n1 : n ≤ 1048576) (b0 : 8 ≤ b) (b1 : b ≤ 131072) (i0 : 20 ≤ i) (i1 : i ≤ 5000000) (d1 : d ≤ 1048576)
    (r0 : 0 ≤ r) (r1 : r < 18446744073709551616) :
    Calls Try.prog 9 #[.int .i64 n, .int .i64 k, .int .i64 p, .int .i64 e, .int .u64 r] w fun e w' => e = .returned (.bool true) ∧ Below w.heap.size w w' := by
  have Hof := Lib.hid Hof
  have Href := Lib.hid Href
  unfold gv at Hof Href
  go_enter Try.func9, Try.ntmps9
  go_upto_region 7 with (first | (go_at_call 14; refine (awake6 _).mono ?_; rintro e w0 ⟨rfl, hb0⟩) | (go_at_call 17; refine (Hof.out _).mono ?_; rintro e w1 ⟨rfl, hb1⟩) | (go_at_call 29; refine (Href.out _).mono ?_; rintro e w2 ⟨rfl, hb2⟩; obtain ⟨hc2, hf2⟩ := bcell hb2; have hz2 : w1.heap.size < w2.heap.size := (by have := hb2.size; simp at this; omega)))
  have hB : Below w.heap.size w w1 := below_next hb0 hb1
  have hB2 : Below w.heap.size w w2 := below_next (hB.alloc hB.size _) hb2
  go_cut [45] (fun s45 wx => s45 = .bool (outB e) ∧ wx.cell? ⟨w1.heap.size, 0, none⟩ = some (.int .i64 n) ∧ wx.cell? ⟨w1.heap.size, 1, none⟩ = some (.int .i64 b) ∧ wx.cell? ⟨w1.heap.size, 2, none⟩ = some (.int .i64 i) ∧ wx.cell? ⟨w1.heap.size, 3, none⟩ = some (.int .i64 l) ∧ wx.cell? ⟨w1.heap.size, 4, none⟩ = some (.int .i64 d) ∧ w1.heap.size < wx.heap.size ∧ Below w.heap.size w wx)
  case first =>
    by_cases c1 : e < 0
    · have hx := Lib.hid (outB_yes (e := e) (.inl c1))
      go_wp2_with fail
      go_meet
      case rel => exact ⟨by rw [hx.out], by go_keep, by go_keep, by go_keep, by go_keep, by go_keep, by simp; omega, hB2.alloc hB2.size _⟩
    · by_cases c2 : 1099511627776 < e
      · have hx := Lib.hid (outB_yes (e := e) (.inr c2))
        go_wp2_with fail
        go_meet
        case rel => exact ⟨by rw [hx.out], by go_keep, by go_keep, by go_keep, by go_keep, by go_keep, by simp; omega, hB2.alloc hB2.size _⟩
      · have hx := Lib.hid (outB_no (e := e) (by omega) (by omega))
        go_wp2_with fail
        go_meet
        case rel => exact ⟨by rw [hx.out], by go_keep, by go_keep, by go_keep, by go_keep, by go_keep, by simp; omega, hB2.alloc hB2.size _⟩
  case rest =>
    clear hc2 hf2
    obtain ⟨rfl, k0, k1, k2, k3, k4, k5, k6⟩ := hcut
    go_upto_if 45 with fail
    go_cut [3] (fun s3 wx => ∃ e' : Int, 0 ≤ e' ∧ e' ≤ 1099511627776 ∧ s3 = .int .i64 e' ∧ wx.cell? ⟨w1.heap.size, 0, none⟩ = some (.int .i64 n) ∧ wx.cell? ⟨w1.heap.size, 1, none⟩ = some (.int .i64 b) ∧ wx.cell? ⟨w1.heap.size, 2, none⟩ = some (.int .i64 i) ∧ wx.cell? ⟨w1.heap.size, 3, none⟩ = some (.int .i64 l) ∧ wx.cell? ⟨w1.heap.size, 4, none⟩ = some (.int .i64 d) ∧ w1.heap.size < wx.heap.size ∧ Below w.heap.size w wx)
    case first =>
      have hy := @outB_out e
      generalize outB e = c at *
      cases c
      · have hy := hy (by decide)
        go_wp2_with fail
        go_meet
        case rel => exact ⟨e, by omega, by omega, rfl, k0, k1, k2, k3, k4, k5, k6⟩
      · clear hy
        go_wp2_with fail
        go_meet
        case rel => exact ⟨0, by omega, by omega, rfl, k0, k1, k2, k3, k4, k5, k6⟩
    case rest =>
      clear k0 k1 k2 k3 k4 k5 k6
      obtain ⟨e', u0, u1, rfl, k0, k1, k2, k3, k4, k5, k6⟩ := hcut
      go_upto_if 50 with fail
      go_cut [15] (fun s15 wx => s15 = .int .u64 (rootOf e' k) ∧ wx.cell? ⟨w1.heap.size, 0, none⟩ = some (.int .i64 n) ∧ wx.cell? ⟨w1.heap.size, 1, none⟩ = some (.int .i64 b) ∧ wx.cell? ⟨w1.heap.size, 2, none⟩ = some (.int .i64 i) ∧ wx.cell? ⟨w1.heap.size, 3, none⟩ = some (.int .i64 l) ∧ wx.cell? ⟨w1.heap.size, 4, none⟩ = some (.int .i64 d) ∧ w1.heap.size < wx.heap.size ∧ Below w.heap.size w wx)
      case first =>
        by_cases hk : k = 1
        · subst hk
          go_wp2_with fail
          go_meet
          case rel => exact ⟨rfl, k0, k1, k2, k3, k4, k5, k6⟩
        · have hk1 : (k == 1) = false := by simpa using hk
          have hr := Lib.hid (rootOf_not (e := e') hk)
          clear hk
          go_wp2_with fail
          go_meet
          case rel => exact ⟨by rw [hr.out], k0, k1, k2, k3, k4, k5, k6⟩
      case rest =>
        clear k0 k1 k2 k3 k4 k5 k6
        obtain ⟨rfl, k0, k1, k2, k3, k4, k5, k6⟩ := hcut
        have C16 := Lib.hid (fun w => root_any e' k w u0 u1)
        generalize rootOf e' k = x at *
        go_upto_region 14 with (go_at_call 15; refine (epoch_any r _ r0 r1).mono ?_; rintro e w' ⟨rfl, rfl⟩)
        go_cut [16, 17, 18, 19, 98] (fun _ _ _ _ s98 wx => s98 = .bool false ∧ wx.cell? ⟨w1.heap.size, 0, none⟩ = some (.int .i64 n) ∧ wx.cell? ⟨w1.heap.size, 1, none⟩ = some (.int .i64 b) ∧ wx.cell? ⟨w1.heap.size, 2, none⟩ = some (.int .i64 i) ∧ wx.cell? ⟨w1.heap.size, 3, none⟩ = some (.int .i64 l) ∧ wx.cell? ⟨w1.heap.size, 4, none⟩ = some (.int .i64 d) ∧ w1.heap.size < wx.heap.size ∧ Below w.heap.size w wx)
        case first =>
          by_cases hr : r / 2 ≤ 1099511627776
          · have f1 := okB_yes hr
            have f2 : epE r = r / 2 := by unfold epE; rw [f1]; rfl
            have f3 : epB r = r % 2 := by unfold epB; rw [f1]; rfl
            have f4 : decide (r / 2 ≤ 1099511627776) = true := decide_eq_true hr
            have f5 : r % 2 ≤ 1 := by omega
            have f6 : 0 ≤ r % 2 := by omega
            clear Hof Href hB hB2 hb0 hb1 hb2
            go_wp2_with (go_at_call 16; refine (C16.out _).mono ?_; rintro e w' ⟨rfl, rfl⟩)
            go_meet
            case rel => exact ⟨by simp, k0, k1, k2, k3, k4, k5, k6⟩
          · have f1 := okB_no hr
            have f2 : epE r = 0 := by unfold epE; rw [f1]; rfl
            have f3 : epB r = 0 := by unfold epB; rw [f1]; rfl
            have f4 : decide (r / 2 ≤ 1099511627776) = false := decide_eq_false hr
            clear Hof Href hB hB2 hb0 hb1 hb2
            go_wp2_with (go_at_call 16; refine (C16.out _).mono ?_; rintro e w' ⟨rfl, rfl⟩)
            go_meet
            case rel => exact ⟨by simp, k0, k1, k2, k3, k4, k5, k6⟩
        case rest =>
          clear k0 k1 k2 k3 k4 k5 k6 C16 Hof Href hB hB2 hb0 hb1 hb2
          obtain ⟨rfl, k0, k1, k2, k3, k4, k5, k6⟩ := hcut
          have C18 := Lib.hid (fun w => bankat_any n b i l d k w (by omega) (by omega))
          have C30 := Lib.hid (fun w => refbank_any n b i l d k w (by omega) (by omega))
          have C21 := Lib.hid (fun w => imageat_any n b i l d k w (by omega) (by omega))
          have C31 := Lib.hid (fun w => refimage_any n b i l d k w (by omega) (by omega))
          have C20 := Lib.hid (fun w => logat_any n b i l d k w (by omega) (by omega) (by omega) (by omega))
          have C32 := Lib.hid (fun w => reflog_any n b i l d k w (by omega) (by omega) (by omega) (by omega))
          have C19 := Lib.hid (fun w => pageat_any n b i l d p w (by omega) (by omega) (by omega))
          have C33 := Lib.hid (fun w => refpage_any n b i l d p w (by omega) (by omega) (by omega))
          have C22 := Lib.hid (fun w => words_any n b i l d w (by omega) (by omega))
          generalize bankAt b k = y at *
          generalize pageAt b d p = z at *
          unfold gv at C18 C19 C20 C21 C22 C30 C31 C32 C33
          have z1 : IntKind.i64.wrap (32 * n) = 32 * n := IntWalk.i64_in _ (by omega)
          have z2 : (n * 32 == 32 * n) = true := by rw [beq_iff_eq]; omega
          go_upto_region 16 with fail
          go_region_held3 (fun w' => w'.cell? ⟨w1.heap.size, 0, none⟩ = some (.int .i64 n) ∧ w'.cell? ⟨w1.heap.size, 1, none⟩ = some (.int .i64 b) ∧ w'.cell? ⟨w1.heap.size, 2, none⟩ = some (.int .i64 i) ∧ w'.cell? ⟨w1.heap.size, 3, none⟩ = some (.int .i64 l) ∧ w'.cell? ⟨w1.heap.size, 4, none⟩ = some (.int .i64 d) ∧ w1.heap.size < w'.heap.size ∧ Below w.heap.size w w')
            (first | (refine ⟨?_, ?_, ?_, ?_, ?_, ?_, ?_⟩ <;> first | exact k6.drew | go_keep) | (go_split_ands; refine ⟨?_, ?_, ?_, ?_, ?_, ?_, ?_⟩ <;> first | exact below_next (by assumption) hb2 | exact Nat.lt_of_lt_of_le (by assumption) hb2.size | (rw [hb2.cell (by assumption)]; assumption)))
            ((first | (go_at_call 18; refine (C18.out _).mono ?_; rintro e w' ⟨rfl, hb2⟩) | (go_at_call 30; refine (C30.out _).mono ?_; rintro e w' ⟨rfl, hb2⟩) | (go_at_call 21; refine (C21.out _).mono ?_; rintro e w' ⟨rfl, hb2⟩) | (go_at_call 31; refine (C31.out _).mono ?_; rintro e w' ⟨rfl, hb2⟩) | (go_at_call 20; refine (C20.out _).mono ?_; rintro e w' ⟨rfl, hb2⟩) | (go_at_call 32; refine (C32.out _).mono ?_; rintro e w' ⟨rfl, hb2⟩) | (go_at_call 19; refine (C19.out _).mono ?_; rintro e w' ⟨rfl, hb2⟩) | (go_at_call 33; refine (C33.out _).mono ?_; rintro e w' ⟨rfl, hb2⟩) | (go_at_call 22; refine (C22.out _).mono ?_; rintro e w' ⟨rfl, hb2⟩)))
          have HS : w'.cell? ⟨w1.heap.size, 0, none⟩ = some (.int .i64 n) ∧ w'.cell? ⟨w1.heap.size, 1, none⟩ = some (.int .i64 b) ∧ w'.cell? ⟨w1.heap.size, 2, none⟩ = some (.int .i64 i) ∧ w'.cell? ⟨w1.heap.size, 3, none⟩ = some (.int .i64 l) ∧ w'.cell? ⟨w1.heap.size, 4, none⟩ = some (.int .i64 d) ∧ w1.heap.size < w'.heap.size ∧ Below w.heap.size w w' := by assumption
          obtain ⟨_, _, _, _, _, _, j6⟩ := HS
          go_wp2
          go_ret
          exact ⟨by simp, j6⟩

set_option maxHeartbeats 800000 in
set_option maxRecDepth 100000 in
theorem places_no (n k p e r : Int) (w : World) (h : n < 64 ∨ 1048576 < n) (r0 : 0 ≤ r) (r1 : r < 18446744073709551616) :
    Calls Try.prog 9 #[.int .i64 n, .int .i64 k, .int .i64 p, .int .i64 e, .int .u64 r] w fun e w' => e = .returned (.bool true) ∧ Below w.heap.size w w' := by
  have Hof1 := Lib.hid (fun w => of_no n w h)
  have Href1 := Lib.hid (fun w => refgeom_no n w h)
  clear h
  go_enter Try.func9, Try.ntmps9
  go_upto_region 7 with (first | (go_at_call 14; refine (awake6 _).mono ?_; rintro e w0 ⟨rfl, hb0⟩) | (go_at_call 17; refine (Hof1.out _).mono ?_; rintro e w1 ⟨rfl, hb1⟩) | (go_at_call 29; refine (Href1.out _).mono ?_; rintro e w2 ⟨rfl, hb2⟩; obtain ⟨hc2, hf2⟩ := bcell hb2; have hz2 : w1.heap.size < w2.heap.size := (by have := hb2.size; simp at this; omega)))
  have hB : Below w.heap.size w w1 := below_next hb0 hb1
  have hB2 : Below w.heap.size w w2 := below_next (hB.alloc hB.size _) hb2
  go_cut [45] (fun s45 wx => s45 = .bool (outB e) ∧ Below w.heap.size w wx)
  case first =>
    by_cases c1 : e < 0
    · have hx := Lib.hid (outB_yes (e := e) (.inl c1))
      go_wp2_with fail
      go_meet
      case rel => exact ⟨by rw [hx.out], hB2.alloc hB2.size _⟩
    · by_cases c2 : 1099511627776 < e
      · have hx := Lib.hid (outB_yes (e := e) (.inr c2))
        go_wp2_with fail
        go_meet
        case rel => exact ⟨by rw [hx.out], hB2.alloc hB2.size _⟩
      · have hx := Lib.hid (outB_no (e := e) (by omega) (by omega))
        go_wp2_with fail
        go_meet
        case rel => exact ⟨by rw [hx.out], hB2.alloc hB2.size _⟩
  case rest =>
    clear hc2 hf2
    obtain ⟨rfl, k6⟩ := hcut
    go_upto_if 45 with fail
    go_cut [3] (fun s3 wx => ∃ e' : Int, 0 ≤ e' ∧ e' ≤ 1099511627776 ∧ s3 = .int .i64 e' ∧ Below w.heap.size w wx)
    case first =>
      have hy := @outB_out e
      generalize outB e = c at *
      cases c
      · have hy := hy (by decide)
        go_wp2_with fail
        go_meet
        case rel => exact ⟨e, by omega, by omega, rfl, k6⟩
      · clear hy
        go_wp2_with fail
        go_meet
        case rel => exact ⟨0, by omega, by omega, rfl, k6⟩
    case rest =>
      clear k6
      obtain ⟨e', u0, u1, rfl, k6⟩ := hcut
      go_upto_if 50 with fail
      go_cut [15] (fun s15 wx => s15 = .int .u64 (rootOf e' k) ∧ Below w.heap.size w wx)
      case first =>
        by_cases hk : k = 1
        · subst hk
          go_wp2_with fail
          go_meet
          case rel => exact ⟨rfl, k6⟩
        · have hk1 : (k == 1) = false := by simpa using hk
          have hr := Lib.hid (rootOf_not (e := e') hk)
          clear hk
          go_wp2_with fail
          go_meet
          case rel => exact ⟨by rw [hr.out], k6⟩
      case rest =>
        clear k6
        obtain ⟨rfl, k6⟩ := hcut
        have C16 := Lib.hid (fun w => root_any e' k w u0 u1)
        generalize rootOf e' k = x at *
        go_upto_region 14 with (go_at_call 15; refine (epoch_any r _ r0 r1).mono ?_; rintro e w' ⟨rfl, rfl⟩)
        by_cases hr : r / 2 ≤ 1099511627776
        · have f1 := okB_yes hr
          have f2 : epE r = r / 2 := by unfold epE; rw [f1]; rfl
          have f3 : epB r = r % 2 := by unfold epB; rw [f1]; rfl
          have f4 : decide (r / 2 ≤ 1099511627776) = true := decide_eq_true hr
          have f5 : r % 2 ≤ 1 := by omega
          have f6 : 0 ≤ r % 2 := by omega
          clear hB hB2 hb0 hb1 hb2
          go_wp2_with (go_at_call 16; refine (C16.out _).mono ?_; rintro e w' ⟨rfl, rfl⟩)
          all_goals (go_quiet (fail))
          go_wp2
          go_ret
          exact ⟨by simp, below_drewN k6 _⟩
        · have f1 := okB_no hr
          have f2 : epE r = 0 := by unfold epE; rw [f1]; rfl
          have f3 : epB r = 0 := by unfold epB; rw [f1]; rfl
          have f4 : decide (r / 2 ≤ 1099511627776) = false := decide_eq_false hr
          clear hB hB2 hb0 hb1 hb2
          go_wp2_with (go_at_call 16; refine (C16.out _).mono ?_; rintro e w' ⟨rfl, rfl⟩)
          go_quiet (fail)
          go_wp2
          go_ret
          exact ⟨by simp, below_drewN k6 _⟩

theorem places_any (n k p e r : Int) (w : World) (_ : (Lit.int .i64 n).wf = true) (_ : (Lit.int .i64 k).wf = true) (_ : (Lit.int .i64 p).wf = true) (_ : (Lit.int .i64 e).wf = true) (h : (Lit.int .u64 r).wf = true) :
    Calls Try.prog 9 #[.int .i64 n, .int .i64 k, .int .i64 p, .int .i64 e, .int .u64 r] w fun e w' => e = .returned (.bool true) ∧ Below w.heap.size w w' := by
  have hr : 0 ≤ r ∧ r < 18446744073709551616 := by
    have := bounds_u64 h; omega
  by_cases hn : n < 64 ∨ 1048576 < n
  · exact places_no n k p e r w hn hr.1 hr.2
  · have hof := fun w => of_yes n w (by omega) (by omega)
    have href := fun w => refgeom_yes n w (by omega) (by omega)
    rw [show 32 * (n / 8) = n / 8 * 32 from by omega] at href
    exact places_in n k p e r _ _ _ _ w hof href (by omega) (by omega) (by omega) (by omega) (by omega) (by omega) (by omega) hr.1 hr.2
end Go.Proofs.Ytkakhjaaakophaa
