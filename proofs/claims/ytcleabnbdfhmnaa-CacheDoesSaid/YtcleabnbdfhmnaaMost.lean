/- The cache's laws: awake, and CacheMost. -/
import Derived.Test.YtcleabnbdfhmnaaPut
import Derived.Deep.OwnRows
namespace Go.Proofs.Ytcleabnbdfhmnaa
open Go.RowKit Go.Maps Go.Sort Go.Shelf

theorem make256 (w : World) : (Instr.makeSlice 37 (.int .i64 256) (.int .i64 256)).run Try.prog w = .ok (.slice (some ⟨w.heap.size, 0, none⟩) 256 256) (w.alloc (.cells (madeCells #[.int .u8 0] 256) 5)) :=
  run_make_row' 37 5 (.int .u8 0) 1 Try.underlying37 Try.info5 rfl .i64 .i64 256 (by omega) (by omega) w
theorem page256 (w : World) : BytesAt (w.alloc (.cells (madeCells #[.int .u8 0] 256) 5)) (some ⟨w.heap.size, 0, none⟩) 256 (List.replicate 256 0) := by
  refine ⟨List.length_replicate, .inr ⟨_, 0, rfl, by simp, fun i hi => ?_⟩⟩
  rw [List.length_replicate] at hi
  rw [List.getElem_replicate]
  rw [Nat.zero_add]
  exact (World.rowIs_made w (.int .u8 0) 256 5).cell hi

set_option maxRecDepth 100000 in
set_option maxHeartbeats 4000000 in
theorem awakeC_any (w : World) : Calls Try.prog 17 #[] w fun e w' => e = .returned (.bool true) ∧ Below w.heap.size w w' := by
  have CN := Lib.hid (newC_any w 0)
  rw [show min (max (0 : Int) 8) 256 = 8 by decide] at CN
  have hmk := make256
  go_enter Try.func17, Try.ntmps17
  go_wp2_with (first
    | (go_at_call 18; refine (CN.out).mono ?_; rintro e w2 ⟨t, b, rfl, hC, hb2, ht, hbb⟩; have HC := Lib.hid hC; clear hC)
    | (go_at_call 19; refine (put_any (HC.out.below ((Below.refl _ _).alloc (Nat.le_refl _) _)) 256 (page256 _) (by show (0 : Int) < 8; omega) (by omega) (by omega) (by rintro a ⟨⟩; have := HC.out.map.lt; simp; omega) (by rintro a ⟨⟩; have := HC.out.tl; simp; omega)).mono ?_; rintro e w3 ⟨g, c, rfl, hC3, hk3, hg3⟩; have HC3 := Lib.hid hC3; clear hC3)
    | (go_at_call 25; refine (mostC_any HC3.out).mono ?_; rintro e w' ⟨rfl, hw⟩; rw [hw]; clear hw w')
    | (go_at_call 24; refine (lenC_any HC3.out).mono ?_; rintro e w' ⟨rfl, hw⟩; rw [hw]; clear hw w'))
  go_ret
  exact ⟨rfl, Kept2.below (hb2.alloc hb2.size _) hk3 ht hbb (by have := hb2.size; simp; omega)⟩

/-- A cache that has had at most j pages, and no more than may be. -/
def CM (w : World) (t b j : Nat) (most : Int) : Prop := ∃ n es last, CacheIs w t b n most last es ∧ (es.length : Int) ≤ most ∧ n ≤ j ∧ last ≤ j
theorem CM.below {w w' : World} {t b j : Nat} {most : Int} (h : CM w t b j most) (hb : Below w.heap.size w w') : CM w' t b j most := by
  obtain ⟨n, es, last, h1, h2⟩ := h; exact ⟨n, es, last, h1.below hb, h2⟩
theorem CM.mono {w : World} {t b j k : Nat} {most : Int} (h : CM w t b j most) (hb : j ≤ k) : CM w t b k most := by
  obtain ⟨n, es, last, h1, h2, h3, h4⟩ := h; exact ⟨n, es, last, h1, h2, by omega, by omega⟩

theorem putM {w : World} {t b j : Nat} {most : Int} (h : CM w t b j most) (hj : j < 1000) : Calls Try.prog 19 #[.pointer (some ⟨t, 0, none⟩), .slice (some ⟨w.heap.size, 0, none⟩) 256 256] (w.alloc (.cells (madeCells #[.int .u8 0] 256) 5)) fun e w' => ∃ v, e = .returned v ∧ CM w' t b (j + 1) most ∧ Kept2 w w' t b := by
  obtain ⟨n, es, last, h1, h2, h3, h4⟩ := h
  have hb : Below w.heap.size w (w.alloc (.cells (madeCells #[.int .u8 0] 256) 5)) := (Below.refl _ _).alloc (Nat.le_refl _) _
  have htl := h1.tl
  have hbl := h1.map.lt
  by_cases hr : (es.length : Int) < most
  · refine (put_any (h1.below hb) 256 (page256 w) hr (by omega) (by omega) (by rintro a ⟨⟩; simp only; omega) (by rintro a ⟨⟩; simp only; omega)).mono ?_
    rintro e w' ⟨g, c, rfl, hC, hk, _⟩
    exact ⟨_, rfl, ⟨_, _, _, hC, by rw [List.length_append, List.length_singleton]; omega, by omega, by omega⟩, (Kept2.of_below hb).trans hk⟩
  · refine (put_full (h1.below hb) _ 256 256 hr).mono ?_
    rintro e w' ⟨rfl, hk⟩
    exact ⟨_, rfl, ⟨_, _, _, (h1.below hb).below hk, h2, by omega, by omega⟩, (Kept2.of_below hb).trans (Kept2.of_below hk)⟩

/-- A slice of bools. -/
def Bools (w : World) (A : Option Addr) (n : Nat) (bs : List Bool) : Prop :=
  bs.length = n ∧ (bs = [] ∨ ∃ b off, A = some ⟨b, off, none⟩ ∧ b < w.heap.size ∧ ∀ i, (h : i < bs.length) → w.cell? ⟨b, off + i, none⟩ = some (.bool bs[i]))
theorem Bools.below {w w' : World} {A : Option Addr} {n : Nat} {bs : List Bool} (h : Bools w A n bs) (hb : Below w.heap.size w w') : Bools w' A n bs :=
  ⟨h.1, h.2.imp id (fun ⟨b, off, e, hl, hc⟩ => ⟨b, off, e, Nat.lt_of_lt_of_le hl hb.size, fun i hi => (hb.cell hl).trans (hc i hi)⟩)⟩
theorem Bools.at {w : World} {A : Option Addr} {n : Nat} {xs : List Bool} (h : Bools w A n xs) {i : Nat} (hi : i < n) :
    ∃ b off, A = some ⟨b, off, none⟩ ∧ b < w.heap.size ∧ ∃ x, xs[i]? = some x ∧ w.cell? ⟨b, off + i, none⟩ = some (.bool x) := by
  have hx : i < xs.length := by rw [h.1]; exact hi
  rcases h.2 with h2 | ⟨b, off, rfl, hl, hc⟩
  · subst h2; simp at hx
  · exact ⟨b, off, rfl, hl, xs[i], List.getElem?_eq_getElem hx, hc i hx⟩

set_option maxRecDepth 100000 in
set_option maxHeartbeats 8000000 in
theorem most_walk {A : Option Addr} {m : Nat} {xs : List Bool} {w : World} (n : Int) (cap : Nat) (k : Int) (h : Bools w A m xs) (hm : m ≤ maxLen) : Calls Try.prog 6 #[.int .i64 n, .slice A m cap, .int .i64 k] w fun e w' => e = .returned (.bool true) ∧ Below w.heap.size w w' := by
  have CA := Lib.hid (awakeC_any w)
  have H := Lib.hid h
  have hmk := make256
  unfold maxLen at hm
  clear h
  by_cases hg : (400 : Int) < m ∨ k < 0 ∨ 1000 < k
  · go_enter Try.func6, Try.ntmps6
    go_wp2_with (first
      | (go_at_call 17; refine (CA.out).mono ?_; rintro e w1 ⟨rfl, hb1⟩))
    all_goals first | (go_ret; exact ⟨rfl, hb1⟩) | (exfalso; omega)
  · have hm4 : ¬ (400 : Int) < m := fun h => hg (.inl h)
    have hk0 : ¬ k < 0 := fun h => hg (.inr (.inl h))
    have hk1 : ¬ 1000 < k := fun h => hg (.inr (.inr h))
    clear hg
    go_enter Try.func6, Try.ntmps6
    go_wp2_with (first
      | (go_at_call 17; refine (CA.out).mono ?_; rintro e w1 ⟨rfl, hb1⟩)
      | (go_at_call 18; refine (newC_any _ _).mono ?_; rintro e w2 ⟨t, b, rfl, hT, hb2, ht, hbb⟩; have HT := Lib.hid (show CM w2 t b 0 (min (max n 8) 256) from ⟨_, _, _, hT, by have := hT.mb; simp; omega, Nat.le_refl _, Int.le_refl _⟩); have hbA := hb1.trans (hb2.mono hb1.size); have hbs : w.heap.size ≤ b := Nat.le_trans hb1.size hbb; have hts : w.heap.size ≤ t := Nat.le_trans hb1.size ht; clear hT hb2))
    generalize min (max n 8) 256 = most at *
    go_loopw [34] (fun k wr => ∃ (j : Nat), j ≤ m ∧ k = .int .i64 j ∧ CM wr t b j most ∧ Below w.heap.size w wr) (fun k _ => m - (intOf k).toNat)
    case atStart => exact ⟨0, Nat.zero_le _, rfl, HT.out, hbA⟩
    case round =>
      obtain ⟨j, hj, rfl, hT, hb⟩ := hrel
      have HTr := Lib.hid hT
      clear hT
      by_cases hlt : j < m
      · obtain ⟨g, off, rfl, hgl, x, hx, c0⟩ := (H.out.below hb).at hlt
        clear hx
        cases x with
        | true =>
        go_wp2_with (first
          | (go_at_call 19; refine (putM HTr.out (by omega)).mono ?_; rintro e w3 ⟨v3, rfl, hT3, hk3⟩; have hbw3 := Kept2.below hb hk3 hts hbs hb.size; obtain ⟨n3, es3, last3, hC3, hl3, hn3, hs3⟩ := hT3; have HC3 := Lib.hid hC3; have hle3 : ¬ most < (es3.length : Int) := (by omega); have hw3 : IntKind.i64.wrap (most - (es3.length : Int)) = most - (es3.length : Int) := (by (rw [IntWalk.i64_left]; unfold wrap64; have := hC3.mb; omega)); clear hC3 hl3)
          | (go_at_call 24; first | ((with_reducible refine (lenC_any HC3.out).mono ?_); rintro e w' ⟨rfl, hw⟩; rw [hw]; clear hw w') | ((with_reducible refine (lenC_any HC4.out).mono ?_); rintro e w' ⟨rfl, hw⟩; rw [hw]; clear hw w'))
          | (go_at_call 25; first | ((with_reducible refine (mostC_any HC3.out).mono ?_); rintro e w' ⟨rfl, hw⟩; rw [hw]; clear hw w') | ((with_reducible refine (mostC_any HC4.out).mono ?_); rintro e w' ⟨rfl, hw⟩; rw [hw]; clear hw w'))
          | (go_at_call 26; refine (room_any HC3.out (k := k) ⟨hk0, hk1⟩).mono ?_; unfold roomB; rintro e w4 ⟨rfl, hb4⟩; have HC4 := Lib.hid (HC3.out.below hb4); have hbw4 := hbw3.trans (hb4.mono hbw3.size); clear hb4))
        go_roundw
        case rel => exact ⟨j + 1, by omega, by go_num, ⟨n3, es3, last3, HC4.out, by omega, hn3, hs3⟩, hbw4⟩
        case measure => simp [intOf]; omega
        | false =>
        obtain ⟨n0, es0, last0, hC0, hl0, hn0, hs0⟩ := HTr.out
        have HC0 := Lib.hid hC0
        have hwf0 : ∀ x l, es0 = x :: l → W64 x.id := by
          intro x l e; subst e; have := hC0.wf x (by simp); have := hC0.lb; unfold W64; omega
        clear hC0
        cases es0 with
        | nil =>
        go_wp2_with (first
          | (go_at_call 22; refine (eldest_any HC0.out).mono ?_; rintro e w3 ⟨rfl, hb3⟩; have hbw3 := hb.trans (hb3.mono hb.size); obtain ⟨n3, es3, last3, hC3, hl3, hn3, hs3⟩ := (show CM w3 t b (j + 1) most from ⟨_, _, _, HC0.out.below hb3, hl0, by omega, by omega⟩); have HC3 := Lib.hid hC3; have hle3 : ¬ most < (es3.length : Int) := (by omega); have hw3 : IntKind.i64.wrap (most - (es3.length : Int)) = most - (es3.length : Int) := (by (rw [IntWalk.i64_left]; unfold wrap64; have := hC3.mb; omega)); clear hC3 hl3)
          | (go_at_call 24; first | ((with_reducible refine (lenC_any HC3.out).mono ?_); rintro e w' ⟨rfl, hw⟩; rw [hw]; clear hw w') | ((with_reducible refine (lenC_any HC4.out).mono ?_); rintro e w' ⟨rfl, hw⟩; rw [hw]; clear hw w'))
          | (go_at_call 25; first | ((with_reducible refine (mostC_any HC3.out).mono ?_); rintro e w' ⟨rfl, hw⟩; rw [hw]; clear hw w') | ((with_reducible refine (mostC_any HC4.out).mono ?_); rintro e w' ⟨rfl, hw⟩; rw [hw]; clear hw w'))
          | (go_at_call 26; refine (room_any HC3.out (k := k) ⟨hk0, hk1⟩).mono ?_; unfold roomB; rintro e w4 ⟨rfl, hb4⟩; have HC4 := Lib.hid (HC3.out.below hb4); have hbw4 := hbw3.trans (hb4.mono hbw3.size); clear hb4))
        go_roundw
        case rel => exact ⟨j + 1, by omega, by go_num, ⟨n3, es3, last3, HC4.out, by omega, hn3, hs3⟩, hbw4⟩
        case measure => simp [intOf]; omega
        | cons y l =>
        go_wp2_with (first
          | (go_at_call 22; refine (eldest_any HC0.out).mono ?_; rintro e w2 ⟨rfl, hb2⟩; have hbw2 := hb.trans (hb2.mono hb.size); have HD := Lib.hid (HC0.out.below hb2))
          | (go_at_call 21; refine (drop_any HD.out (y := y) (by simp)).mono ?_; rintro e w3 ⟨rfl, hC, hg3⟩; have hbw3 := Kept2.below hbw2 (Kept2.of_grown (t := t) hg3) hts hbs hbw2.size; obtain ⟨n3, es3, last3, hC3, hl3, hn3, hs3⟩ := (show CM w3 t b (j + 1) most from ⟨_, _, _, hC, by have := List.length_filter_le (fun z : Pg => !(z.id == y.id)) (y :: l); unfold delC; omega, by omega, by omega⟩); clear hC; have HC3 := Lib.hid hC3; have hle3 : ¬ most < (es3.length : Int) := (by omega); have hw3 : IntKind.i64.wrap (most - (es3.length : Int)) = most - (es3.length : Int) := (by (rw [IntWalk.i64_left]; unfold wrap64; have := hC3.mb; omega)); clear hC3 hl3)
          | (go_at_call 24; first | ((with_reducible refine (lenC_any HC3.out).mono ?_); rintro e w' ⟨rfl, hw⟩; rw [hw]; clear hw w') | ((with_reducible refine (lenC_any HC4.out).mono ?_); rintro e w' ⟨rfl, hw⟩; rw [hw]; clear hw w'))
          | (go_at_call 25; first | ((with_reducible refine (mostC_any HC3.out).mono ?_); rintro e w' ⟨rfl, hw⟩; rw [hw]; clear hw w') | ((with_reducible refine (mostC_any HC4.out).mono ?_); rintro e w' ⟨rfl, hw⟩; rw [hw]; clear hw w'))
          | (go_at_call 26; refine (room_any HC3.out (k := k) ⟨hk0, hk1⟩).mono ?_; unfold roomB; rintro e w4 ⟨rfl, hb4⟩; have HC4 := Lib.hid (HC3.out.below hb4); have hbw4 := hbw3.trans (hb4.mono hbw3.size); clear hb4))
        go_roundw
        case rel => exact ⟨j + 1, by omega, by go_num, ⟨n3, es3, last3, HC4.out, by omega, hn3, hs3⟩, hbw4⟩
        case measure => simp [intOf]; omega
      · have hge : ¬ (j : Int) < (m : Int) := (by omega)
        clear hlt hj
        have CP := fun w' A a c => put_nil w' A a c
        go_wp2_with (first
          | (go_at_call 19; refine (put_nil _ _ _ _).mono ?_; rintro e w3 ⟨rfl, hb3⟩; have hbw3 := (hb.alloc hb.size _).trans (hb3.mono (hb.alloc hb.size _).size))
          | (go_at_call 20; refine (get_nil _ _).mono ?_; rintro e w' ⟨rfl, hw⟩; rw [hw]; clear hw w')
          | (go_at_call 21; refine (drop_nil _ _).mono ?_; rintro e w' ⟨rfl, hw⟩; rw [hw]; clear hw w')
          | (go_at_call 26; refine (room_nil _ _).mono ?_; rintro e w4 ⟨rfl, hb4⟩; have hbw4 := hbw3.trans (hb4.mono hbw3.size); clear hb4)
          | (go_at_call 24; refine (lenC_nil _).mono ?_; rintro e w' ⟨rfl, hw⟩; rw [hw]; clear hw w')
          | (go_at_call 25; refine (mostC_nil _).mono ?_; rintro e w' ⟨rfl, hw⟩; rw [hw]; clear hw w')
          | (go_at_call 23; refine (ids_nil _).mono ?_; rintro e w' ⟨rfl, hw⟩; rw [hw]; clear hw w'))
        go_ret
        exact ⟨rfl, hbw4⟩
end Go.Proofs.Ytcleabnbdfhmnaa
