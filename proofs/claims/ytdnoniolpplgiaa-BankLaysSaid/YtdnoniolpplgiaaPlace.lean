/- The document's device: a word's place: a contract. -/
import Derived.Test.YtdnoniolpplgiaaRef5
import Derived.Deep.RegionLaw
namespace Go.Proofs.Ytdnoniolpplgiaa
open Go.RowKit Go.Maps Go.Sort Go.Shelf

/-- Where one goes in. -/
def kOf (xs : List Wd) (i : Int) : Nat := (xs.takeWhile (fun y => decide (y.at_ < i))).length
theorem kOf_le (xs : List Wd) (i : Int) : kOf xs i ≤ xs.length := (List.takeWhile_sublist _).length_le
theorem kOf_lt {xs : List Wd} {who : Int} : ∀ {i : Nat}, i < kOf xs who → ∃ y, xs[i]? = some y ∧ y.at_ < who := by
  induction xs with
  | nil => intro i h; simp [kOf] at h
  | cons x t ih =>
    intro i h
    unfold kOf at h
    by_cases hx : x.at_ < who
    · rw [List.takeWhile_cons_of_pos (by simpa using hx)] at h
      cases i with
      | zero => exact ⟨x, rfl, hx⟩
      | succ i => exact ih (i := i) (by simpa [kOf] using h)
    · rw [List.takeWhile_cons_of_neg (by simpa using hx)] at h
      simp at h
theorem kOf_end {xs : List Wd} {who : Int} {y : Wd} (h : xs[kOf xs who]? = some y) : ¬ y.at_ < who := by
  induction xs with
  | nil => simp at h
  | cons x t ih =>
    unfold kOf at h
    by_cases hx : x.at_ < who
    · rw [List.takeWhile_cons_of_pos (by simpa using hx)] at h
      exact ih (by simpa [kOf] using h)
    · rw [List.takeWhile_cons_of_neg (by simpa using hx)] at h
      simp at h
      subst h; exact hx
def Wd.zero (i : Int) : Wd := ⟨i, 0, 0, false, false, 0⟩
def placeW (ws : List Wd) (i : Int) : List Wd := if (ws[kOf ws i]?).map Wd.at_ = some i then ws else ws.take (kOf ws i) ++ ([Wd.zero i] ++ ws.drop (kOf ws i))

section
variable {w : World} {s cap : Nat} {X : Option Nat} {x : Rf}
theorem RefIs.wds {b : Nat} (h : RefIs w s (some b) cap x) : WdS w (some ⟨b, 0, none⟩) x.ws.length cap x.ws := by
  obtain ⟨h1, h2, h3, h4⟩ := h.ws
  exact ⟨rfl, h.cap, .inr ⟨b, 0, rfl, h1, fun i hi => by rw [Nat.zero_add]; exact h4 i hi⟩⟩
theorem RefIs.relist {g n c : Nat} {ys : List Wd} (h : RefIs w s X cap x) (hW : WdS w (some ⟨g, 0, none⟩) n c ys) (hf : ∀ o, w.frozen? ⟨g, o, none⟩ = false) (hg : g ≠ s) (hn : n < 10000) : RefIs (w.setCell ⟨s, 1, none⟩ (.slice (some ⟨g, 0, none⟩) n c)) s (some g) c { x with ws := ys } := by
  obtain ⟨w1, w2, w3⟩ := hW
  have hgr := Lib.grownBy_setCell w s 1 (.slice (some ⟨g, 0, none⟩) n c)
  have o : ∀ k, k ≠ 1 → (w.setCell ⟨s, 1, none⟩ (.slice (some ⟨g, 0, none⟩) n c)).cell? ⟨s, k, none⟩ = w.cell? ⟨s, k, none⟩ := fun k hk => World.cell?_setCell_other _ _ _ _ (by intro e; cases e; exact hk rfl)
  rcases w3 with ⟨e, _⟩ | ⟨b, off, e, hl, hc⟩
  · cases e
  · cases e
    have hbb := hgr.block g hl (by simpa using hg)
    refine ⟨(o 0 (by omega)).trans h.c0, ?_, (o 2 (by omega)).trans h.c2, (o 3 (by omega)).trans h.c3, (o 4 (by omega)).trans h.c4, fun k => by rw [World.frozen?_setCell]; exact h.fr k, Nat.lt_of_lt_of_le h.sl hgr.size, ⟨Nat.lt_of_lt_of_le hl hgr.size, hg, fun o => (World.frozen?_of_block (a := ⟨g, o, none⟩) hbb).trans (hf o), fun i hi => ?_⟩, by simp only [w1]; exact w2, by simp only [w1]; exact hn, h.nb, h.ab, h.eb⟩
    · rw [World.cell?_setCell_same _ _ _ h.c1]; simp only [slV, w1]; rfl
    · have := hc i hi
      rw [Nat.zero_add] at this
      exact this.block hbb
theorem box_wd (w : World) (i : Int) : WdS (w.alloc (.cells #[.int .i64 i, .int .u64 0, .int .u64 0, .bool false, .bool false, .int .u64 0] 94)) (some ⟨w.heap.size, 0, none⟩) 1 1 [Wd.zero i] := by
  unfold Wd.zero
  refine ⟨rfl, Nat.le_refl _, .inr ⟨w.heap.size, 0, rfl, by simp, fun k hk => ?_⟩⟩
  have h0 : k = 0 := by simpa using hk
  subst h0
  refine ⟨?_, ?_, ?_, ?_, ?_, ?_⟩ <;> go_simp
theorem keep1 {w w1 w2 : World} {s : Nat} {v : Value} (hs : s < w.heap.size) (h : w1.cell? ⟨s, 1, none⟩ = some v ∧ w1.frozen? ⟨s, 1, none⟩ = false ∧ Below w.heap.size w w1) (k : Below w1.heap.size w1 w2) : w2.cell? ⟨s, 1, none⟩ = some v ∧ w2.frozen? ⟨s, 1, none⟩ = false ∧ Below w.heap.size w w2 :=
  ⟨(k.cell (p := ⟨s, 1, none⟩) (Nat.lt_of_lt_of_le hs h.2.2.size)).trans h.1, (frozen_below k (a := ⟨s, 1, none⟩) (Nat.lt_of_lt_of_le hs h.2.2.size)).trans h.2.1, h.2.2.trans (k.mono h.2.2.size)⟩
theorem news0 (w : World) (o : Obj) : Below w.heap.size w (w.alloc o) := (Below.refl _ _).alloc (Nat.le_refl _) _

/-- What place answers, and leaves. -/
def Placed (s : Nat) (X : Option Nat) (x : Rf) (i : Int) (w : World) (e : Ending) (w' : World) : Prop :=
  ∃ X' cap', e = .returned (.int .i64 (kOf x.ws i : Nat)) ∧ RefIs w' s X' cap' { x with ws := placeW x.ws i } ∧ Kept (refB s X) w w' ∧ ∀ q ∈ refB s X', q ∈ refB s X ∨ w.heap.size ≤ q

theorem placed_end {w5 : World} {A5 : Option Addr} {B n5 c5 : Nat} {ys : List Wd} {i : Int} (H : RefIs w s X cap x) (hb : Below w.heap.size w w5) (h6 : w.heap.size ≤ B) (hS : WdS w5 A5 n5 c5 ys) (hX : ∃ g, A5 = some ⟨g, 0, none⟩ ∧ B ≤ g ∧ ∀ o, w5.frozen? ⟨g, o, none⟩ = false) (hys : placeW x.ws i = ys) (hn : n5 < 10000) :
    ∃ X' cap', RefIs (w5.setCell ⟨s, 1, none⟩ (.slice A5 n5 c5)) s X' cap' { x with ws := placeW x.ws i } ∧ Kept (refB s X) w (w5.setCell ⟨s, 1, none⟩ (.slice A5 n5 c5)) ∧ ∀ q ∈ refB s X', q ∈ refB s X ∨ w.heap.size ≤ q := by
  obtain ⟨g, rfl, hg, hf⟩ := hX
  have hsl := H.sl
  refine ⟨some g, c5, ?_, (Kept.of_below hb).trans (Kept.setCell (by simp [refB])), fun q hq => ?_⟩
  · rw [hys]
    exact (H.below hb).relist hS hf (by omega) hn
  · simp [refB] at hq
    rcases hq with rfl | rfl
    · exact .inl (by simp [refB])
    · exact .inr (by omega)

set_option maxRecDepth 100000 in
set_option maxHeartbeats 8000000 in
theorem place_any (h : RefIs w s X cap x) (i : Int) (hfew : x.ws.length < 9000) : Calls Try.prog 87 #[.pointer (some ⟨s, 0, none⟩), .int .i64 i] w (Placed s X x i w) := by
  have H := Lib.hid h
  have hc1 := h.c1
  have hsl := h.sl
  have hfr := h.fr
  have hcap := h.cap
  have hkle := kOf_le x.ws i
  unfold slV at hc1
  clear h
  generalize hA : Option.map (fun b => (⟨b, 0, none⟩ : Addr)) X = A at *
  have HA := Lib.hid hA
  clear hA
  go_enter Try.func87, Try.ntmps87
  go_wp2
  go_loop [5] (fun k => ∃ j : Nat, j ≤ kOf x.ws i ∧ k = .int .i64 j) (fun k => x.ws.length - (intOf k).toNat)
  case atStart => exact ⟨0, Nat.zero_le _, rfl⟩
  case round =>
    obtain ⟨j, hj, rfl⟩ := hrel
    by_cases hlt : j < kOf x.ws i
    · obtain ⟨b, rfl, hbl, hbn, hfrb, y, hy, f0, f1, f2, f3, f4, f5⟩ := H.out.at (i := j) (by omega)
      have hA : some (⟨b, 0, none⟩ : Addr) = A := HA.out
      subst hA
      obtain ⟨y', hy', hya⟩ := kOf_lt hlt
      rw [hy] at hy'
      cases hy'
      have z1 : decide ((j : Int) < (x.ws.length : Int)) = true := by rw [decide_eq_true_iff]; omega
      clear hy
      go_wp2
      go_round
      case rel => exact ⟨j + 1, by omega, by go_num⟩
      case measure => simp [intOf]; omega
    · have hke : j = kOf x.ws i := by omega
      have HK := Lib.hid hke
      by_cases hn : j < x.ws.length
      · obtain ⟨b, rfl, hbl, hbn, hfrb, y, hy, f0, f1, f2, f3, f4, f5⟩ := H.out.at hn
        have hA : some (⟨b, 0, none⟩ : Addr) = A := HA.out
        subst hA
        have hyw : ¬ y.at_ < i := kOf_end (by rw [← hke]; exact hy)
        have z1 : ((j : Int) == (x.ws.length : Int)) = false := by rw [beq_eq_false_iff_ne]; omega
        by_cases he : y.at_ = i
        · have hpl : placeW x.ws i = x.ws := by unfold placeW; rw [← hke, hy]; exact if_pos (by simp [he])
          have HP := Lib.hid hpl
          have heb : (y.at_ != i) = false := by simp [he]
          clear hpl hy hke hlt hj
          go_wp2
          go_ret
          exact ⟨_, _, by rw [← HK.out]; rfl, by rw [HP.out]; exact H.out, Kept.refl _ _, fun q hq => .inl hq⟩
        · have hpl : placeW x.ws i = x.ws.take j ++ ([Wd.zero i] ++ x.ws.drop j) := by unfold placeW; rw [← hke, hy]; exact if_neg (by simp [he])
          have HP := Lib.hid hpl
          have heb : (y.at_ != i) = true := by simp [he]
          clear hpl hy hke hlt hj
          have hj0 : (0 : Int) ≤ (j : Int) := by omega
          have hj1 : (j : Int) ≤ (cap : Int) := by omega
          have hj2 : (j : Int) ≤ (x.ws.length : Int) := by omega
          have hj3 : (x.ws.length : Int) ≤ (cap : Int) := by omega
          have hck : ¬ cap = j := by omega
          have hws := H.out.wds
          have HWS := Lib.hid hws
          clear hws
          generalize hnn : x.ws.length = n at *
          go_upto_region 5 with fail
          have hdr := HWS.out.drop (show j ≤ n by omega)
          rw [if_neg hck, Nat.zero_add] at hdr
          have HDR := Lib.hid hdr
          have HTK := Lib.hid (HWS.out.take (show j ≤ n by omega))
          clear hdr
          go_region_law ((first
              | (refine step_appW rfl _ _ rfl (some ⟨_, 0, none⟩) 1 [Wd.zero i] rfl _ (n - j) _ (x.ws.drop j) rfl (by first | exact box_wd _ _ | exact (box_wd _ _).below ((Below.refl _ _).drew)) (HDR.out.below (by first | exact (news0 _ _).drew | exact (Below.refl _ _).drew | exact news0 _ _)) (by omega) ?_; intro X6 c6 w6 hS6 hX6 hb6; have hbw6 : Below w.heap.size w w6 := (news0 _ _).drew.trans (hb6.mono (by simp)); have k1 := (hbw6.cell (p := ⟨s, 1, none⟩) hsl).trans hc1)
              | (refine step_appW rfl _ _ rfl (some ⟨b, 0, none⟩) j (x.ws.take j) rfl _ (1 + (n - j)) _ ([Wd.zero i] ++ x.ws.drop j) rfl (HTK.out.below (by exact (news0 _ _).drew.trans (hb6.mono (by simp)))) hS6 (by omega) ?_; intro X5 c5 w5 hS5 hX5 hb5; have hbw5 : Below w.heap.size w w5 := ((news0 _ _).drew.trans (hb6.mono (by simp))).trans (hb5.mono (by have := hb6.size; simp at this; omega)); have g1 := (hbw5.cell (p := ⟨s, 1, none⟩) hsl).trans hc1; have g2 := (frozen_below hbw5 (a := ⟨s, 1, none⟩) hsl).trans (hfr 1))))
          all_goals
            have hF := placed_end H.out hbw5 (show w.heap.size ≤ w6.heap.size from hbw6.size) hS5 (hX5.resolve_left (by omega)).2 HP.out (by omega)
            have HF := Lib.hid hF
            clear hF hS6 hX6 hb6 hS5 hX5 hb5 hbw5 hbw6 g1 g2 k1
            go_wp2
            go_ret
            obtain ⟨X', cap', r1, r2, r3⟩ := HF.out
            exact ⟨X', cap', by rw [← HK.out]; rfl, r1, r2, r3⟩
      · have hnn : j = x.ws.length := by omega
        have hy : x.ws[kOf x.ws i]? = none := by rw [← hke]; exact List.getElem?_eq_none (by omega)
        have hpl : placeW x.ws i = x.ws.take j ++ ([Wd.zero i] ++ x.ws.drop j) := by unfold placeW; rw [← hke] at hy ⊢; rw [hy]; exact if_neg (by simp)
        have HP := Lib.hid hpl
        have z0 : decide ((j : Int) < (x.ws.length : Int)) = false := by rw [decide_eq_false_iff_not]; omega
        have z1 : ((j : Int) == (x.ws.length : Int)) = true := by simp [hnn]
        clear hpl hy hke hlt hn
        have hj0 : (0 : Int) ≤ (j : Int) := by omega
        have hj1 : (j : Int) ≤ (cap : Int) := by omega
        have hj2 : (j : Int) ≤ (x.ws.length : Int) := by omega
        have hj3 : (x.ws.length : Int) ≤ (cap : Int) := by omega
        cases X with
        | none =>
          obtain ⟨hw0, hc0⟩ := H.out.ws
          have hA : none = A := HA.out
          subst hA
          have hl0 : x.ws.length = 0 := by rw [hw0]; rfl
          have hj00 : j = 0 := by omega
          subst hj00
          subst hc0
          rw [hl0] at hc1 z0 z1
          have HTK := Lib.hid (show WdS w none 0 0 (x.ws.take 0) from ⟨by simp, Nat.le_refl _, .inl ⟨rfl, rfl⟩⟩)
          have HDR := Lib.hid (show WdS w none (0 - 0) (0 - 0) (x.ws.drop 0) from ⟨by simp [hw0], Nat.le_refl _, .inl ⟨rfl, rfl⟩⟩)
          generalize x.ws.length = n at *
          subst hl0
          clear hnn hj hw0 hkle
          go_upto_region 5 with fail
          go_region_law ((first
              | (refine step_appW rfl _ _ rfl (some ⟨_, 0, none⟩) 1 [Wd.zero i] rfl _ (0 - 0) _ (x.ws.drop 0) rfl (by first | exact box_wd _ _ | exact (box_wd _ _).below ((Below.refl _ _).drew)) (HDR.out.below (by first | exact (news0 _ _).drew | exact (Below.refl _ _).drew | exact news0 _ _)) (by omega) ?_; intro X6 c6 w6 hS6 hX6 hb6; have hbw6 : Below w.heap.size w w6 := (news0 _ _).drew.trans (hb6.mono (by simp)); have k1 := (hbw6.cell (p := ⟨s, 1, none⟩) hsl).trans hc1)
              | (refine step_appW rfl _ _ rfl none 0 (x.ws.take 0) rfl _ (1 + (0 - 0)) _ ([Wd.zero i] ++ x.ws.drop 0) rfl (HTK.out.below (by exact (news0 _ _).drew.trans (hb6.mono (by simp)))) hS6 (by omega) ?_; intro X5 c5 w5 hS5 hX5 hb5; have hbw5 : Below w.heap.size w w5 := ((news0 _ _).drew.trans (hb6.mono (by simp))).trans (hb5.mono (by have := hb6.size; simp at this; omega)); have g1 := (hbw5.cell (p := ⟨s, 1, none⟩) hsl).trans hc1; have g2 := (frozen_below hbw5 (a := ⟨s, 1, none⟩) hsl).trans (hfr 1))))
          all_goals
            have hF := placed_end H.out hbw5 (show w.heap.size ≤ w6.heap.size from hbw6.size) hS5 (hX5.resolve_left (by omega)).2 HP.out (by omega)
            have HF := Lib.hid hF
            clear hF hS6 hX6 hb6 hS5 hX5 hb5 hbw5 hbw6 g1 g2 k1
            go_wp2
            go_ret
            obtain ⟨X', cap', r1, r2, r3⟩ := HF.out
            exact ⟨X', cap', by rw [← HK.out]; rfl, r1, r2, r3⟩
        | some b =>
          have hA : some (⟨b, 0, none⟩ : Addr) = A := HA.out
          subst hA
          have hws := H.out.wds
          have HWS := Lib.hid hws
          clear hws
          generalize x.ws.length = n at *
          obtain rfl : j = n := hnn
          by_cases hck : cap = j
          · have hdr := HWS.out.drop (show j ≤ j by omega)
            rw [if_pos hck, Nat.sub_self, hck, Nat.sub_self] at hdr
            have HDR := Lib.hid hdr
            have HTK := Lib.hid (HWS.out.take (show j ≤ j by omega))
            clear hdr
            have hck2 := hck.symm
            subst hck2
            go_upto_region 5 with fail
            go_region_law ((first
              | (refine step_appW rfl _ _ rfl (some ⟨_, 0, none⟩) 1 [Wd.zero i] rfl _ 0 _ (x.ws.drop j) rfl (by first | exact box_wd _ _ | exact (box_wd _ _).below ((Below.refl _ _).drew)) (HDR.out.below (by first | exact (news0 _ _).drew | exact (Below.refl _ _).drew | exact news0 _ _)) (by omega) ?_; intro X6 c6 w6 hS6 hX6 hb6; have hbw6 : Below w.heap.size w w6 := (news0 _ _).drew.trans (hb6.mono (by simp)); have k1 := (hbw6.cell (p := ⟨s, 1, none⟩) hsl).trans hc1)
              | (refine step_appW rfl _ _ rfl (some ⟨b, 0, none⟩) j (x.ws.take j) rfl _ 1 _ ([Wd.zero i] ++ x.ws.drop j) rfl (HTK.out.below (by exact (news0 _ _).drew.trans (hb6.mono (by simp)))) hS6 (by omega) ?_; intro X5 c5 w5 hS5 hX5 hb5; have hbw5 : Below w.heap.size w w5 := ((news0 _ _).drew.trans (hb6.mono (by simp))).trans (hb5.mono (by have := hb6.size; simp at this; omega)); have g1 := (hbw5.cell (p := ⟨s, 1, none⟩) hsl).trans hc1; have g2 := (frozen_below hbw5 (a := ⟨s, 1, none⟩) hsl).trans (hfr 1))))
            all_goals
              have hF := placed_end H.out hbw5 (show w.heap.size ≤ w6.heap.size from hbw6.size) hS5 (hX5.resolve_left (by omega)).2 HP.out (by omega)
              have HF := Lib.hid hF
              clear hF hS6 hX6 hb6 hS5 hX5 hb5 hbw5 hbw6 g1 g2 k1
              go_wp2
              go_ret
              obtain ⟨X', cap', r1, r2, r3⟩ := HF.out
              exact ⟨X', cap', by rw [← HK.out]; rfl, r1, r2, r3⟩
          · have hdr := HWS.out.drop (show j ≤ j by omega)
            rw [if_neg hck, Nat.zero_add, Nat.sub_self] at hdr
            have HDR := Lib.hid hdr
            have HTK := Lib.hid (HWS.out.take (show j ≤ j by omega))
            clear hdr
            go_upto_region 5 with fail
            go_region_law ((first
              | (refine step_appW rfl _ _ rfl (some ⟨_, 0, none⟩) 1 [Wd.zero i] rfl _ 0 _ (x.ws.drop j) rfl (by first | exact box_wd _ _ | exact (box_wd _ _).below ((Below.refl _ _).drew)) (HDR.out.below (by first | exact (news0 _ _).drew | exact (Below.refl _ _).drew | exact news0 _ _)) (by omega) ?_; intro X6 c6 w6 hS6 hX6 hb6; have hbw6 : Below w.heap.size w w6 := (news0 _ _).drew.trans (hb6.mono (by simp)); have k1 := (hbw6.cell (p := ⟨s, 1, none⟩) hsl).trans hc1)
              | (refine step_appW rfl _ _ rfl (some ⟨b, 0, none⟩) j (x.ws.take j) rfl _ 1 _ ([Wd.zero i] ++ x.ws.drop j) rfl (HTK.out.below (by exact (news0 _ _).drew.trans (hb6.mono (by simp)))) hS6 (by omega) ?_; intro X5 c5 w5 hS5 hX5 hb5; have hbw5 : Below w.heap.size w w5 := ((news0 _ _).drew.trans (hb6.mono (by simp))).trans (hb5.mono (by have := hb6.size; simp at this; omega)); have g1 := (hbw5.cell (p := ⟨s, 1, none⟩) hsl).trans hc1; have g2 := (frozen_below hbw5 (a := ⟨s, 1, none⟩) hsl).trans (hfr 1))))
            all_goals
              have hF := placed_end H.out hbw5 (show w.heap.size ≤ w6.heap.size from hbw6.size) hS5 (hX5.resolve_left (by omega)).2 HP.out (by omega)
              have HF := Lib.hid hF
              clear hF hS6 hX6 hb6 hS5 hX5 hb5 hbw5 hbw6 g1 g2 k1
              go_wp2
              go_ret
              obtain ⟨X', cap', r1, r2, r3⟩ := HF.out
              exact ⟨X', cap', by rw [← HK.out]; rfl, r1, r2, r3⟩
end
end Go.Proofs.Ytdnoniolpplgiaa
