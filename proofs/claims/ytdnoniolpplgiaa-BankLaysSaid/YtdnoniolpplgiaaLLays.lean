/- The law BankLays, walked (package sumplaw11). -/
import Derived.Test.YtdnoniolpplgiaaWake
import Derived.Test.YtdnoniolpplgiaaRLay
import Derived.Test.YtdnoniolpplgiaaAlike
namespace Go.Proofs.Ytdnoniolpplgiaa
open Go.RowKit Go.Maps Go.Sort Go.Shelf
theorem DX.start9 {w0 w1 w2 : World} {t m c y : Nat} {n n' : Int} (hb : Below w0.heap.size w0 w1) (hD : DevIs w1 t m c y [] (Dv.new n)) (hlo : ∀ i ∈ [t, m, c, y], w0.heap.size ≤ i) (hR : RefIs w2 w1.heap.size none 0 (Rf.new n')) (hb2 : Below w1.heap.size w1 w2) : DX w0 w2 t m c y w1.heap.size none 0 [] (Dv.new n) (Rf.new n') 0 := by
  have hlt := hD.lt
  have hs := hb.size
  refine ⟨hD.below hb2, hR, fun i hi hm => ?_, ⟨hlo, fun i hi => ?_⟩, (fun i hi => by cases hi), ⟨Nat.le_refl _, Nat.le_refl _, Int.le_refl _, Int.le_refl _⟩, (fun z hz => by cases hz), hb.trans (hb2.mono hs)⟩
  · simp [refB] at hm
    have := hlt i hi
    omega
  · simp [refB] at hi
    omega
theorem few_yes9 (w : World) (A : Option Addr) (n cap : Nat) (h : n ≤ 200) : Calls Try.prog 34 #[.slice A n cap] w fun e w' => e = .returned (.bool true) ∧ w' = w := by
  refine (few_words w A n cap).mono ?_
  rintro e w' ⟨rfl, rfl⟩
  exact ⟨by simp [h], rfl⟩
theorem few_no9 (w : World) (A : Option Addr) (n cap : Nat) (h : ¬ n ≤ 200) : Calls Try.prog 34 #[.slice A n cap] w fun e w' => e = .returned (.bool false) ∧ w' = w := by
  refine (few_words w A n cap).mono ?_
  rintro e w' ⟨rfl, rfl⟩
  exact ⟨by simp [h], rfl⟩
section
variable {w0 w w' : World} {t m c y s cap cap' N N' : Nat} {X X' : Option Nat} {T T' : List Int} {d d' : Dv} {x x' : Rf}
/-- Both devices, alike. -/
structure BY (w0 w : World) (t m c y s : Nat) (X : Option Nat) (cap : Nat) (T : List Int) (d : Dv) (x : Rf) (N : Nat) : Prop where
  dx : DX w0 w t m c y s X cap T d x N
  rel : Rel d x
theorem BY.below (h : BY w0 w t m c y s X cap T d x N) (hb : Below w.heap.size w w') : BY w0 w' t m c y s X cap T d x N := ⟨h.dx.below hb, h.rel⟩
theorem BY.mono (h : BY w0 w t m c y s X cap T d x N) (hN : N ≤ N') : BY w0 w t m c y s X cap T d x N' := ⟨h.dx.mono hN, h.rel⟩
theorem BY.doAny (h : BY w0 w t m c y s X cap T d x N) (k : De) (hi : W64 k.i) (hB : Bools w k.ka k.kn k.keep) (hlo : k.keep ≠ [] → ∀ a, k.ka = some a → a.block < w0.heap.size) (hN : N < 8000) : Calls Try.prog 22 #[.pointer (some ⟨t, 0, none⟩), .pointer (some ⟨s, 0, none⟩), .agg #[.int .i64 k.k, .int .i64 k.i, .int .u64 k.v, .slice k.ka k.kn k.kc]] w fun e w' => e = .returned (.bool true) ∧ ∃ c' y' X' cap' T' d' x', BY w0 w' t m c' y' s X' cap' T' d' x' (N + 1) := by
  refine (do_any h.dx k hi hB hlo hN).mono ?_
  rintro e w' ⟨c2, y2, X2, cap2, T2, r, rfl, hr, hX⟩
  obtain ⟨h1, h2⟩ := rel_do h.rel hr
  exact ⟨by rw [h1, decide_eq_true rfl], _, _, _, _, _, _, _, hX, h2⟩
theorem DX.ex (h : DX w0 w t m c y s X cap T d x N) : EX w w t m c y T d N := ⟨h.dev, h.t64, ⟨h.few.1, h.few.2.2.1⟩, Kept.refl _ _⟩
theorem DX.rx (h : DX w0 w t m c y s X cap T d x N) : RX w w s X X cap x N := ⟨h.ref, Kept.refl _ _, fun _ h => .inl h, ⟨h.few.2.1, h.few.2.2.2⟩, h.ats⟩
theorem DX.layD (h : DX w0 w t m c y s X cap T d x N) (hE : EX w w' t m c y T' d' N') (hN : N ≤ N') : DX w0 w' t m c y s X cap T' d' x N' :=
  ⟨hE.dev, h.ref.kept hE.kept (fun i hi hm => h.apart i hm hi), h.apart, h.lo, hE.t64, ⟨hE.few.1, Nat.le_trans h.few.2.1 hN, hE.few.2, by have := h.few.2.2.2; omega⟩, h.ats, Kept.below h.bel hE.kept h.lo.1 h.bel.size⟩
theorem DX.layX (h : DX w0 w t m c y s X cap T d x N) (hR : RX w w' s X X' cap' x' N') (hN : N ≤ N') : DX w0 w' t m c y s X' cap' T d x' N' := by
  have hs := h.bel.size
  have hdl := h.dev.lt
  refine ⟨h.dev.kept hR.kept h.apart, hR.ref, fun i hi hr => ?_, ⟨h.lo.1, fun i hi => ?_⟩, h.t64, ⟨Nat.le_trans h.few.1 hN, hR.few.1, by have := h.few.2.2.1; omega, hR.few.2⟩, hR.ats, Kept.below h.bel hR.kept h.lo.2 h.bel.size⟩
  · rcases hR.new i hr with e | e
    · exact h.apart i hi e
    · have := hdl i hi; omega
  · rcases hR.new i hi with e | e
    · exact h.lo.2 i e
    · omega
theorem BY.arm1 (h : BY w0 w t m c y s X cap T d x N) {a : Int} (ha : W64 a) : Calls Try.prog 14 #[.pointer (some ⟨t, 0, none⟩), .int .i64 a] w fun e w' => e = .returned (.tuple #[]) ∧ DX w0 w' t m c y s X cap T { d with armed := max a 0 } x N := by
  refine (arm_any h.dx.dev ha).mono ?_
  rintro e w' ⟨rfl, hD, hk⟩
  exact ⟨rfl, h.dx.layD (T' := T) (d' := { d with armed := max a 0 }) ⟨hD, h.dx.t64, ⟨h.dx.few.1, h.dx.few.2.2.1⟩, hk⟩ (Nat.le_refl _)⟩
theorem arm2 {a : Int} (h : DX w0 w t m c y s X cap T { d with armed := max a 0 } x N) (hr : Rel d x) (ha : W64 a) : Calls Try.prog 42 #[.pointer (some ⟨s, 0, none⟩), .int .i64 a] w fun e w' => e = .returned (.tuple #[]) ∧ BY w0 w' t m c y s X cap T { d with armed := max a 0 } { x with armed := max a 0 } N := by
  refine (rarm_any h.ref ha).mono ?_
  rintro e w' ⟨rfl, hR, hk⟩
  exact ⟨rfl, h.layX ⟨hR, hk, fun _ h => .inl h, ⟨h.few.2.1, h.few.2.2.2⟩, h.ats⟩ (Nat.le_refl _), hr.arm _⟩
theorem BY.stays (h : BY w0 w t m c y s X cap T d x N) {i : Int} (hi : W64 i) : Calls Try.prog 24 #[.pointer (some ⟨t, 0, none⟩), .int .i64 i] w fun e w' => e = .returned (.int .u64 (x.stays i)) ∧ w' = w := by
  have hl := stays_any h.dx.dev hi
  rw [(h.rel.holds i).2] at hl
  exact hl
theorem BY.dirty (h : BY w0 w t m c y s X cap T d x N) : Calls Try.prog 25 #[.pointer (some ⟨t, 0, none⟩)] w (NewInts (dirtyN x.ws) w) := by
  obtain ⟨ks, hr, hm, _, hc⟩ := dirtyD_any h.dx.dev
  rw [h.rel.dirty hr hm] at hc
  exact hc
theorem BY.deadD (h : BY w0 w t m c y s X cap T d x N) : Calls Try.prog 18 #[.pointer (some ⟨t, 0, none⟩)] w fun e w' => e = .returned (.bool x.dead) ∧ w' = w := by
  have hl := deadD_any h.dx.dev
  rw [h.rel.dead] at hl
  exact hl
theorem BY.same (h : BY w0 w t m c y s X cap T d x N) {A B : Option Addr} {ca cb : Nat} (hA : Ints w A (dirtyN x.ws).length (dirtyN x.ws)) (hB : Ints w B (dirtyN x.ws).length (dirtyN x.ws)) : Calls Try.prog 29 #[.slice A (dirtyN x.ws).length ca, .slice B (dirtyN x.ws).length cb] w fun e w' => e = .returned (.bool true) ∧ Below w.heap.size w w' := by
  have hl := dirtyN_len x.ws
  have hf := h.dx.ref.few
  refine (sameints_any ca cb hA hB (by unfold maxLen; omega) (by unfold maxLen; omega)).mono ?_
  rintro e w2 ⟨rfl, hb⟩
  exact ⟨by rw [decide_eq_true rfl], hb⟩
end
section
variable {A A3 : Option Addr} {l n3 : Nat} {xs : List De} {ys : List Int} {w : World}
set_option maxRecDepth 100000 in
set_option maxHeartbeats 16000000 in
theorem lays_walk (n at_ arm : Int) (cap c3 : Nat) (h : Deeds w w.heap.size A l xs) (hm : l ≤ maxLen) (hx : ∀ x ∈ xs, W64 x.i) (h3 : Words w A3 n3 ys) (l3 : ys ≠ [] → ∀ a, A3 = some a → a.block < w.heap.size) (ha : W64 arm) : Calls Try.prog 9 #[.int .i64 n, .slice A l cap, .int .i64 at_, .slice A3 n3 c3, .int .i64 arm] w fun e w' => e = .returned (.bool true) ∧ Below w.heap.size w w' := by
  have H := Lib.hid h
  have CF0 := fun w1 (hb : Below w.heap.size w w1) => few_any cap (h.below hb) hm
  have hlen := h.1
  have HX0 := Lib.hid hx
  have H3 := Lib.hid h3
  have L3 := Lib.hid l3
  have HAR := Lib.hid ha
  unfold maxLen at hm
  clear h hx h3 l3 ha
  cases hfb : fewB xs with
  | false =>
    rw [hfb] at CF0
    have CF := Lib.hid CF0
    clear CF0 hfb
    go_enter Try.func9, Try.ntmps9
    go_wp2_with (first
      | (go_at_call 33; refine (awake_bank w).mono ?_; rintro e w1 ⟨rfl, hb1⟩)
      | (go_at_call 12; refine (CF.out w1 hb1).mono ?_; rintro e w2 ⟨rfl, hb2⟩; have hb3 := hb1.trans (hb2.mono hb1.size)))
    go_ret
    exact ⟨rfl, hb3⟩
  | true =>
    rw [hfb] at CF0
    have CF := Lib.hid CF0
    obtain ⟨hfl, hfk⟩ := fewB_le hfb
    clear CF0 hfb hfk
    by_cases x3 : n3 ≤ 200
    case neg =>
      have e3 := Lib.hid x3
      clear x3
      go_enter Try.func9, Try.ntmps9
      go_wp2_with (first
        | (go_at_call 33; refine (awake_bank w).mono ?_; rintro e w1 ⟨rfl, hb1⟩)
        | (go_at_call 12; refine (CF.out w1 hb1).mono ?_; rintro e w2 ⟨rfl, hb2⟩; have hb3 := hb1.trans (hb2.mono hb1.size))
        | (go_at_call 34; (with_reducible refine (few_no9 w2 A3 n3 c3 e3.out).mono ?_); rintro e w' ⟨rfl, hw⟩; rw [hw]; clear hw w'))
      go_ret
      exact ⟨rfl, hb3⟩
    have e3 := Lib.hid x3
    have hn3 : (n3 : Int) ≤ 200 := by omega
    clear x3
    by_cases q0 : 4096 < n
    case pos =>
      go_enter Try.func9, Try.ntmps9
      go_wp2_with (first
        | (go_at_call 33; refine (awake_bank w).mono ?_; rintro e w1 ⟨rfl, hb1⟩)
        | (go_at_call 12; refine (CF.out w1 hb1).mono ?_; rintro e w2 ⟨rfl, hb2⟩; have hb3 := hb1.trans (hb2.mono hb1.size))
        | (go_at_call 34; (with_reducible refine (few_yes9 w2 A3 n3 c3 e3.out).mono ?_); rintro e w' ⟨rfl, hw⟩; rw [hw]; clear hw w'))
      go_ret
      exact ⟨rfl, hb3⟩
    by_cases q1 : at_ < 0
    case pos =>
      go_enter Try.func9, Try.ntmps9
      go_wp2_with (first
        | (go_at_call 33; refine (awake_bank w).mono ?_; rintro e w1 ⟨rfl, hb1⟩)
        | (go_at_call 12; refine (CF.out w1 hb1).mono ?_; rintro e w2 ⟨rfl, hb2⟩; have hb3 := hb1.trans (hb2.mono hb1.size))
        | (go_at_call 34; (with_reducible refine (few_yes9 w2 A3 n3 c3 e3.out).mono ?_); rintro e w' ⟨rfl, hw⟩; rw [hw]; clear hw w'))
      go_ret
      exact ⟨rfl, hb3⟩
    by_cases q2 : 5000 < at_
    case pos =>
      go_enter Try.func9, Try.ntmps9
      go_wp2_with (first
        | (go_at_call 33; refine (awake_bank w).mono ?_; rintro e w1 ⟨rfl, hb1⟩)
        | (go_at_call 12; refine (CF.out w1 hb1).mono ?_; rintro e w2 ⟨rfl, hb2⟩; have hb3 := hb1.trans (hb2.mono hb1.size))
        | (go_at_call 34; (with_reducible refine (few_yes9 w2 A3 n3 c3 e3.out).mono ?_); rintro e w' ⟨rfl, hw⟩; rw [hw]; clear hw w'))
      go_ret
      exact ⟨rfl, hb3⟩
    go_enter Try.func9, Try.ntmps9
    go_wp2_with (first
      | (go_at_call 33; refine (awake_bank w).mono ?_; rintro e w1 ⟨rfl, hb1⟩)
      | (go_at_call 12; refine (CF.out w1 hb1).mono ?_; rintro e w2 ⟨rfl, hb2⟩; have hb3 := hb1.trans (hb2.mono hb1.size))
      | (go_at_call 34; (with_reducible refine (few_yes9 w2 A3 n3 c3 e3.out).mono ?_); rintro e w' ⟨rfl, hw⟩; rw [hw]; clear hw w')
      | (go_at_call 13; refine (new_any w2 n).mono ?_; rintro e w5 ⟨t, m, c, y, rfl, hD, hb6, hlo⟩; have HD := Lib.hid hD; have hb7 := hb3.trans (hb6.mono hb3.size); have HL := Lib.hid (fun i hi => Nat.le_trans hb3.size (hlo i hi)); clear hD hlo hb6)
      | (go_at_call 21; refine (rnew_any w5 n).mono ?_; rintro e w6 ⟨rfl, hR, hb8⟩; have HS := Lib.hid (DX.start9 (w0 := w) hb7 HD.out HL.out hR hb8); clear hR hb8))
    generalize w5.heap.size = s at *
    clear HD HL
    go_loopw [44] (fun u wr => ∃ j : Nat, j ≤ l ∧ u = .int .i64 j ∧ ∃ c y X cap T d x, BY w wr t m c y s X cap T d x j) (fun u _ => l - (intOf u).toNat)
    case atStart => exact ⟨0, Nat.zero_le _, rfl, c, y, none, 0, [], Dv.new n, Rf.new n, HS.out, rel_new n⟩
    case round =>
      clear HS
      obtain ⟨j, hj, rfl, c1, y1, X1, cap1, T1, d1, x1, hX⟩ := hrel
      have HXX := Lib.hid hX
      have hbr := hX.dx.bel
      clear hX
      by_cases hlt : j < l
      · obtain ⟨g, off, rfl, hgl, k, hkj, hkm, k0, k1, k2, k3, hBk, hLk⟩ := (H.out.below hbr).at hlt
        have HKI := Lib.hid (HX0.out k hkm)
        have HLK := Lib.hid hLk
        have HBK := Lib.hid (hBk.below ((Below.refl _ _).alloc (Nat.le_refl _) (.cells #[.int .i64 k.k, .int .i64 k.i, .int .u64 k.v, .slice k.ka k.kn k.kc] 31)))
        have HXA := Lib.hid (HXX.out.below ((Below.refl _ _).alloc (Nat.le_refl _) (.cells #[.int .i64 k.k, .int .i64 k.i, .int .u64 k.v, .slice k.ka k.kn k.kc] 31)))
        clear hkj hkm hBk hLk
        by_cases hk6 : k.k = 6
        · have hkb : (k.k == 6) = true := by rw [hk6]; simp
          clear hk6
          have HXB := Lib.hid (HXA.out.mono (Nat.le_succ j))
          go_wp2
          go_roundw
          case rel => exact ⟨j + 1, by omega, by go_num, _, _, _, _, _, _, _, HXB.out⟩
          case measure => simp [intOf]; omega
        · have hkb : (k.k == 6) = false := by simp [hk6]
          clear hk6
          go_wp2_with (go_at_call 22; refine (HXA.out.doAny k HKI.out HBK.out HLK.out (by omega)).mono ?_; rintro e w7 ⟨rfl, c7, y7, X7, cap7, T7, d7, x7, hX7⟩; have HX7 := Lib.hid hX7; clear hX7)
          go_roundw
          case rel => exact ⟨j + 1, by omega, by go_num, _, _, _, _, _, _, _, HX7.out⟩
          case measure => simp [intOf]; omega
      · obtain rfl : j = l := by omega
        have hwn : (ys ≠ [] → ∀ a, A3 = some a → a.block ∉ [t, m, c1, y1]) := fun hne a ha hm => by have := L3.out hne a ha; have := HXX.out.dx.lo.1 _ hm; omega
        have HWN := Lib.hid hwn
        clear hwn
        go_upto_region 14 with (first
          | (go_at_call 14; refine (HXX.out.arm1 HAR.out).mono ?_; rintro e w8 ⟨rfl, hX⟩; have HX8 := Lib.hid hX; have HRR := Lib.hid HXX.out.rel; clear hX)
          | (go_at_call 42; refine (arm2 HX8.out HRR.out HAR.out).mono ?_; rintro e w9 ⟨rfl, hX⟩; obtain ⟨d9, x9, HX9⟩ : ∃ d9 x9, Hid (BY w w9 t m c1 y1 s X1 cap1 T1 d9 x9 j) := ⟨_, _, Lib.hid hX⟩; clear hX))
        have HX10 := Lib.hid (HX9.out.below ((Below.refl _ _).drew))
        clear HX8 HX9 HRR
        go_cut [87] (fun v wx => v = .bool false ∧ ∃ X cap T d x, BY w wx t m c1 y1 s X cap T d x (j + 4 * n3 + 20))
        case first =>
          go_region_with
            ((first
              | (go_at_call 43; refine (lay_any HX10.out.dx.ex c3 (H3.out.below HX10.out.dx.bel) HWN.out (at_ := at_) (by omega) (by omega) (by omega) (by omega)).mono ?_; rintro e w20 ⟨T20, ⟨er, d20⟩, rfl, hL, hE⟩; have HX20 := Lib.hid (HX10.out.dx.layD hE (by omega)); have HRL := Lib.hid (rel_lay HX10.out.rel hL); have HW20 := Lib.hid (H3.out.below HX20.out.bel); have HWR := Lib.hid (show ys ≠ [] → ∀ a, A3 = some a → a.block ∉ refB s X1 from fun hne a ha hm => by have := L3.out hne a ha; have := HX20.out.lo.2 _ hm; omega); clear hL hE)
              | (go_at_call 44; refine (rlay_any (x := x9) HX20.out.rx c3 HW20.out HWR.out (at_ := at_) (by omega) (by omega) (by omega) (by omega)).mono ?_; rintro e w21 ⟨X21, cap21, rfl, hR⟩; obtain ⟨d21, x21, HB21⟩ : ∃ d21 x21, Hid (BY w w21 t m c1 y1 s X21 cap21 T20 d21 x21 (j + 4 * n3 + 20)) := ⟨_, _, Lib.hid ⟨(HX20.out.layX hR (by omega)).mono (by omega), HRL.out.2⟩⟩; rw [← HRL.out.1]; have p3 := HB21.out.dx.ref.c3; clear hR)
              | (go_at_call 18; refine (HB21.out.deadD).mono ?_; rintro e w22 ⟨rfl, hw⟩; rw [hw]; clear hw w22)
              | (go_at_call 25; refine (HB21.out.dirty).mono ?_; rintro e w32 ⟨A32, c32, rfl, hI32, _, hb32⟩; have H32 := Lib.hid (HB21.out.below hb32); have HI32 := Lib.hid hI32; have o3 := H32.out.dx.ref.c3; clear hb32 hI32)
              | (go_at_call 30; refine (rdirty_any H32.out.dx.ref).mono ?_; rintro e w33 ⟨A33, c33, rfl, hI33, _, hb33⟩; have H33 := Lib.hid (H32.out.below hb33); have HI33 := Lib.hid hI33; have HJ33 := Lib.hid (HI32.out.below hb33); have n3' := H33.out.dx.ref.c3; clear hb33 hI33)
              | (go_at_call 29; refine (H33.out.same HJ33.out HI33.out).mono ?_; rintro e w34 ⟨rfl, hb34⟩; have H34 := Lib.hid (H33.out.below hb34); have r3' := H34.out.dx.ref.c3; clear hb34)))
          all_goals (go_wp2)
          all_goals (go_meet)
          all_goals (exact ⟨rfl, _, _, _, _, _, H34.out⟩)
        case rest =>
          obtain ⟨rfl, X40, cap40, T40, d40, x40, hX40⟩ := hcut
          have HX40 := Lib.hid hX40
          clear hX40
          go_wp2
          go_loopw [90] (fun u wr => ∃ q : Nat, q ≤ n3 ∧ u = .int .i64 q ∧ BY w wr t m c1 y1 s X40 cap40 T40 d40 x40 (j + 4 * n3 + 20)) (fun u _ => n3 - (intOf u).toNat)
          case atStart => exact ⟨0, Nat.zero_le _, rfl, HX40.out⟩
          case round =>
            obtain ⟨q, hq, rfl, hX⟩ := hrel
            have HX := Lib.hid hX
            clear hX
            by_cases hlt2 : q < n3
            · have hw1 : IntKind.i64.wrap (at_ + (q : Int)) = at_ + (q : Int) := IntWalk.i64_in _ (by omega)
              have h64 : W64 (at_ + (q : Int)) := by unfold W64; omega
              go_wp2_with (first
                | (go_at_call 24; refine (HX.out.stays h64).mono ?_; rintro e w50 ⟨rfl, hw⟩; rw [hw]; clear hw w50)
                | (go_at_call 28; refine (rstays_any HX.out.dx.ref (at_ + (q : Int))).mono ?_; rintro e w51 ⟨rfl, hb51⟩; have HX51 := Lib.hid (HX.out.below hb51); clear hb51))
              go_roundw
              case rel => exact ⟨q + 1, by omega, by go_num, HX51.out⟩
              case measure => simp [intOf]; omega
            · obtain rfl : q = n3 := by omega
              go_wp2
              go_ret
              exact ⟨rfl, HX.out.dx.bel⟩
end
end Go.Proofs.Ytdnoniolpplgiaa
