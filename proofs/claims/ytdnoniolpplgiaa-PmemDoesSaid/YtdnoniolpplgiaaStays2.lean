/- The law PmemStays, walked: whole. -/
import Derived.Test.YtdnoniolpplgiaaStays
namespace Go.Proofs.Ytdnoniolpplgiaa
open Go.RowKit Go.Maps Go.Sort Go.Shelf

theorem wf_u64 {n : Int} (h : (Lit.int .u64 n).wf = true) : 0 ≤ n ∧ n < 2 ^ 64 := by
  simp [Lit.wf, IntKind.min, IntKind.max, IntKind.signed, IntKind.bits] at h
  omega
theorem DX.start {w0 w1 w2 : World} {t m c y : Nat} {n n' : Int} (hb : Below w0.heap.size w0 w1) (hD : DevIs w1 t m c y [] (Dv.new n)) (hlo : ∀ i ∈ [t, m, c, y], w0.heap.size ≤ i) (hR : RefIs w2 w1.heap.size none 0 (Rf.new n')) (hb2 : Below w1.heap.size w1 w2) : DX w0 w2 t m c y w1.heap.size none 0 [] (Dv.new n) (Rf.new n') 0 := by
  have hlt := hD.lt
  have hs := hb.size
  refine ⟨hD.below hb2, hR, fun i hi hm => ?_, ⟨hlo, fun i hi => ?_⟩, (fun i hi => by cases hi), ⟨Nat.le_refl _, Nat.le_refl _, Int.le_refl _, Int.le_refl _⟩, (fun z hz => by cases hz), hb.trans (hb2.mono hs)⟩
  · simp [refB] at hm
    have := hlt i hi
    omega
  · simp [refB] at hi
    omega

/-- What the law knows in its first loop, and in its second one. -/
def S1 (w0 w : World) (t m s : Nat) (N : Nat) : Prop := ∃ c y X cap T d x, DX w0 w t m c y s X cap T d x N ∧ Alive d
def S2 (w0 w : World) (t m s : Nat) (N : Nat) (i v : Int) : Prop := ∃ c y X cap T d x, DX w0 w t m c y s X cap T d x N ∧ Alive d ∧ Clean d i v

theorem S1.doAny {w0 w : World} {t m s N : Nat} (h : S1 w0 w t m s N) (k : De) (hi : W64 k.i) (hk : k.k < 4) (hB : Bools w k.ka k.kn k.keep) (hlo : k.keep ≠ [] → ∀ a, k.ka = some a → a.block < w0.heap.size) (hN : N < 8000) : Calls Try.prog 22 #[.pointer (some ⟨t, 0, none⟩), .pointer (some ⟨s, 0, none⟩), .agg #[.int .i64 k.k, .int .i64 k.i, .int .u64 k.v, .slice k.ka k.kn k.kc]] w fun e w' => ∃ b, e = .returned (.bool b) ∧ S1 w0 w' t m s (N + 1) := by
  obtain ⟨c, y, X, cap, T, d, x, hX, ha⟩ := h
  refine (do_any hX k hi hB hlo hN).mono ?_
  rintro e w' ⟨c', y', X', cap', T', r, rfl, hr, hX'⟩
  exact ⟨_, rfl, c', y', X', cap', T', r.2, _, hX', ha.doD hk hr⟩
theorem S2.doAny {w0 w : World} {t m s N : Nat} {i v : Int} (h : S2 w0 w t m s N i v) (k : De) (hi : W64 k.i) (hk : k.k < 4) (hn : ¬ (k.k ≤ 0 ∧ k.i = i)) (hB : Bools w k.ka k.kn k.keep) (hlo : k.keep ≠ [] → ∀ a, k.ka = some a → a.block < w0.heap.size) (hN : N < 8000) : Calls Try.prog 22 #[.pointer (some ⟨t, 0, none⟩), .pointer (some ⟨s, 0, none⟩), .agg #[.int .i64 k.k, .int .i64 k.i, .int .u64 k.v, .slice k.ka k.kn k.kc]] w fun e w' => ∃ b, e = .returned (.bool b) ∧ S2 w0 w' t m s (N + 1) i v := by
  obtain ⟨c, y, X, cap, T, d, x, hX, ha, hc⟩ := h
  refine (do_any hX k hi hB hlo hN).mono ?_
  rintro e w' ⟨c', y', X', cap', T', r, rfl, hr, hX'⟩
  exact ⟨_, rfl, c', y', X', cap', T', r.2, _, hX', ha.doD hk hr, hc.doD ha hk hn hr⟩
theorem S1.below {w0 w w' : World} {t m s N : Nat} (h : S1 w0 w t m s N) (hb : Below w.heap.size w w') : S1 w0 w' t m s N := by
  obtain ⟨c, y, X, cap, T, d, x, hX, ha⟩ := h; exact ⟨c, y, X, cap, T, d, x, hX.below hb, ha⟩
theorem S2.below {w0 w w' : World} {t m s N : Nat} {i v : Int} (h : S2 w0 w t m s N i v) (hb : Below w.heap.size w w') : S2 w0 w' t m s N i v := by
  obtain ⟨c, y, X, cap, T, d, x, hX, ha⟩ := h; exact ⟨c, y, X, cap, T, d, x, hX.below hb, ha⟩
theorem S1.mono {w0 w : World} {t m s N N' : Nat} (h : S1 w0 w t m s N) (hN : N ≤ N') : S1 w0 w t m s N' := by
  obtain ⟨c, y, X, cap, T, d, x, hX, ha⟩ := h; exact ⟨c, y, X, cap, T, d, x, hX.mono hN, ha⟩
theorem S2.mono {w0 w : World} {t m s N N' : Nat} {i v : Int} (h : S2 w0 w t m s N i v) (hN : N ≤ N') : S2 w0 w t m s N' i v := by
  obtain ⟨c, y, X, cap, T, d, x, hX, ha⟩ := h; exact ⟨c, y, X, cap, T, d, x, hX.mono hN, ha⟩
theorem S1.bel {w0 w : World} {t m s N : Nat} (h : S1 w0 w t m s N) : Below w0.heap.size w0 w := by
  obtain ⟨c, y, X, cap, T, d, x, hX, ha⟩ := h; exact hX.bel
theorem S2.bel {w0 w : World} {t m s N : Nat} {i v : Int} (h : S2 w0 w t m s N i v) : Below w0.heap.size w0 w := by
  obtain ⟨c, y, X, cap, T, d, x, hX, ha⟩ := h; exact hX.bel

theorem sff1 {d : Dv} (h : Alive d) {i : Int} (v : Int) (h0 : 0 ≤ i) (h1 : i < 512) : (d.store i v).1 = 0 ∧ ((d.store i v).2.flush (i / 8)).1 = 0 := by
  have hs : d.store i v = (0, d.tick.put i v) := store_go v (by rw [h.dead, h.n]; exact fault_in h0 h1) (by rw [h.armed]; omega)
  have ha1 : Alive (d.tick.put i v) := h.tick.alike (put_alike _ _ _)
  rw [hs]
  have hl : (d.tick.put i v).lines = 64 := by unfold Dv.lines; rw [ha1.n]; rfl
  refine ⟨rfl, ?_⟩
  show ((d.tick.put i v).flush (i / 8)).1 = 0
  rw [flush_go (by rw [ha1.dead, hl]; exact fault_in (by omega) (by omega)) (by rw [ha1.armed]; omega)]
theorem S2.crash {w0 w : World} {t m s N : Nat} {i v : Int} (h : S2 w0 w t m s N i v) {A3 : Option Addr} {l3 : Nat} {keep : List Bool} (cap3 : Nat) (hB : Bools w A3 l3 keep) (hlo : keep ≠ [] → ∀ a, A3 = some a → a.block < w0.heap.size) :
    Calls Try.prog 20 #[.pointer (some ⟨t, 0, none⟩), .slice A3 l3 cap3] w fun e w' => ∃ c y T d, e = .returned (.tuple #[]) ∧ DevIs w' t m c y T d ∧ d.dead = false ∧ d.n = 512 ∧ d.holds i = v ∧ d.stays i = v ∧ (∀ k, d.cache k = none) ∧ Below w0.heap.size w0 w' := by
  obtain ⟨c, y, X, cap, T, d, x, hX, ha, hc⟩ := h
  obtain ⟨ks, hr, hm, _, _⟩ := dirtyD_any hX.dev
  have hlo' : keep ≠ [] → ∀ a, A3 = some a → a.block ∉ [t, m, c, y] := fun hne a he hmm => by have := hlo hne a he; have := hX.lo.1 _ hmm; omega
  refine (crash_any hX.dev hX.t64 hr hm cap3 hB hlo').mono ?_
  rintro e w' ⟨c', y', rfl, hD, hk, hc', hy'⟩
  have hfar := crashN_far d ks keep (i := i) (by rw [hm, hc.cache]; simp) ks.length
  have hst : (d.crash ks keep).stays i = v := by
    have e1 : (d.crash ks keep).stays i = (d.crashN ks keep ks.length).stays i := rfl
    rw [e1, show (d.crashN ks keep ks.length).stays i = ((d.crashN ks keep ks.length).at_ i).stays from rfl, hfar]
    exact hc.stays
  refine ⟨c', y', T, _, rfl, hD, rfl, ?_, ?_, hst, fun k => rfl, Kept.below hX.bel hk hX.lo.1 hX.bel.size⟩
  · show (d.crashN ks keep ks.length).n = 512
    rw [(crashN_alike d ks keep _).n]; exact ha.n
  · show ((none : Option Int).getD ((d.crash ks keep).stays i)) = v
    exact hst

set_option maxRecDepth 100000 in
set_option maxHeartbeats 8000000 in
theorem stays_walk {A A2 A3 : Option Addr} {l l2 l3 : Nat} {xs ys : List De} {keep : List Bool} {w : World} (i v : Int) (cap cap2 cap3 : Nat) (h : Deeds w w.heap.size A l xs) (hm : l ≤ maxLen) (hx : ∀ x ∈ xs, W64 x.i) (hi : W64 i) (h2 : Deeds w w.heap.size A2 l2 ys) (hm2 : l2 ≤ maxLen) (hy : ∀ x ∈ ys, W64 x.i) (hB : Bools w A3 l3 keep) (hlo : keep ≠ [] → ∀ a, A3 = some a → a.block < w.heap.size) : Calls Try.prog 4 #[.slice A l cap, .int .i64 i, .int .u64 v, .slice A2 l2 cap2, .slice A3 l3 cap3] w fun e w' => e = .returned (.bool true) ∧ Below w.heap.size w w' := by
  have CA := Lib.hid (awake_any w)
  have H := Lib.hid h
  have H2 := Lib.hid h2
  have CF0 := fun w1 (hb : Below w.heap.size w w1) => few_any cap (h.below hb) hm
  have CG0 := fun w1 (hb : Below w.heap.size w w1) => few_any cap2 (h2.below hb) hm2
  have hlen := h.1
  have hlen2 := h2.1
  have HX := Lib.hid hx
  have HY := Lib.hid hy
  have HI := Lib.hid hi
  have HB := Lib.hid hB
  have HLO := Lib.hid hlo
  unfold maxLen at hm hm2
  clear h h2 hx hy hi hB hlo
  cases hfb : fewB xs with
  | false =>
    rw [hfb] at CF0
    have CF := Lib.hid CF0
    clear CF0 hfb CG0
    go_enter Try.func4, Try.ntmps4
    go_wp2_with (first
      | (go_at_call 11; refine (CA.out).mono ?_; rintro e w1 ⟨rfl, hb1⟩)
      | (go_at_call 12; refine (CF.out w1 hb1).mono ?_; rintro e w2 ⟨rfl, hb2⟩; have hb3 := hb1.trans (hb2.mono hb1.size)))
    go_ret
    exact ⟨rfl, hb3⟩
  | true =>
    rw [hfb] at CF0
    have CF := Lib.hid CF0
    obtain ⟨hfl, hfk⟩ := fewB_le hfb
    clear CF0 hfb hfk
    cases hgb : fewB ys with
    | false =>
      rw [hgb] at CG0
      have CG := Lib.hid CG0
      clear CG0 hgb
      go_enter Try.func4, Try.ntmps4
      go_wp2_with (first
        | (go_at_call 11; refine (CA.out).mono ?_; rintro e w1 ⟨rfl, hb1⟩)
        | (go_at_call 12; first | ((with_reducible refine (CF.out w1 hb1).mono ?_); rintro e w2 ⟨rfl, hb2⟩; have hb3 := hb1.trans (hb2.mono hb1.size)) | ((with_reducible refine (CG.out w2 hb3).mono ?_); rintro e w4 ⟨rfl, hb4⟩; have hb5 := hb3.trans (hb4.mono hb3.size))))
      go_ret
      exact ⟨rfl, hb5⟩
    | true =>
      rw [hgb] at CG0
      have CG := Lib.hid CG0
      obtain ⟨hgl, hgk⟩ := fewB_le hgb
      clear CG0 hgb hgk
      by_cases hi0 : i < 0
      · go_enter Try.func4, Try.ntmps4
        go_wp2_with (first
          | (go_at_call 11; refine (CA.out).mono ?_; rintro e w1 ⟨rfl, hb1⟩)
          | (go_at_call 12; first | ((with_reducible refine (CF.out w1 hb1).mono ?_); rintro e w2 ⟨rfl, hb2⟩; have hb3 := hb1.trans (hb2.mono hb1.size)) | ((with_reducible refine (CG.out w2 hb3).mono ?_); rintro e w4 ⟨rfl, hb4⟩; have hb5 := hb3.trans (hb4.mono hb3.size))))
        go_ret
        exact ⟨rfl, hb5⟩
      · by_cases hi1 : 512 ≤ i
        · go_enter Try.func4, Try.ntmps4
          go_wp2_with (first
            | (go_at_call 11; refine (CA.out).mono ?_; rintro e w1 ⟨rfl, hb1⟩)
            | (go_at_call 12; first | ((with_reducible refine (CF.out w1 hb1).mono ?_); rintro e w2 ⟨rfl, hb2⟩; have hb3 := hb1.trans (hb2.mono hb1.size)) | ((with_reducible refine (CG.out w2 hb3).mono ?_); rintro e w4 ⟨rfl, hb4⟩; have hb5 := hb3.trans (hb4.mono hb3.size))))
          go_ret
          exact ⟨rfl, hb5⟩
        · go_enter Try.func4, Try.ntmps4
          go_wp2_with (first
            | (go_at_call 11; refine (CA.out).mono ?_; rintro e w1 ⟨rfl, hb1⟩)
            | (go_at_call 12; first | ((with_reducible refine (CF.out w1 hb1).mono ?_); rintro e w2 ⟨rfl, hb2⟩; have hb3 := hb1.trans (hb2.mono hb1.size)) | ((with_reducible refine (CG.out w2 hb3).mono ?_); rintro e w4 ⟨rfl, hb4⟩; have hb5 := hb3.trans (hb4.mono hb3.size)))
            | (go_at_call 13; refine (new_any w4 512).mono ?_; rintro e w5 ⟨t, m, c, y, rfl, hD, hb6, hlo⟩; have HD := Lib.hid hD; have hb7 := hb5.trans (hb6.mono hb5.size); have HL := Lib.hid (fun i hi => Nat.le_trans hb5.size (hlo i hi)); clear hD hlo hb6)
            | (go_at_call 21; refine (rnew_any w5 512).mono ?_; rintro e w6 ⟨rfl, hR, hb8⟩; have HS := Lib.hid (show S1 w w6 t m w5.heap.size 0 from ⟨_, _, _, _, _, _, _, DX.start hb7 HD.out HL.out hR hb8, ⟨rfl, rfl, rfl⟩⟩); clear hR hb8))
          generalize w5.heap.size = s at *
          go_loopw [41] (fun u wr => ∃ j : Nat, j ≤ l ∧ u = .int .i64 j ∧ S1 w wr t m s j) (fun u _ => l - (intOf u).toNat)
          case atStart => exact ⟨0, Nat.zero_le _, rfl, HS.out⟩
          case round =>
            obtain ⟨j, hj, rfl, hS⟩ := hrel
            have hbr := hS.bel
            have HSS := Lib.hid hS
            clear hS
            by_cases hlt : j < l
            · obtain ⟨g, off, rfl, hgl, k, hkj, hkm, c0, c1, c2, c3, hBk, hLk⟩ := (H.out.below hbr).at hlt
              have HKI := Lib.hid (HX.out k hkm)
              have hba : Below wr.heap.size wr (wr.alloc (.cells #[.int .i64 k.k, .int .i64 k.i, .int .u64 k.v, .slice k.ka k.kn k.kc] 31)) := (Below.refl _ _).alloc (Nat.le_refl _) _
              have HBK := Lib.hid (hBk.below hba)
              have HLK := Lib.hid hLk
              have HSA := Lib.hid (HSS.out.below hba)
              clear hkj hkm hBk hLk hba
              by_cases hk4 : k.k < 4
              · go_wp2_with (go_at_call 22; refine (HSA.out.doAny k HKI.out hk4 HBK.out HLK.out (by omega)).mono ?_; rintro e w7 ⟨bb, rfl, hS7⟩; have HS7 := Lib.hid hS7; clear hS7)
                go_roundw
                case rel => exact ⟨j + 1, by omega, by go_num, HS7.out⟩
                case measure => simp [intOf]; omega
              · have HSB := Lib.hid (HSA.out.mono (Nat.le_succ j))
                go_wp2
                go_roundw
                case rel => exact ⟨j + 1, by omega, by go_num, HSB.out⟩
                case measure => simp [intOf]; omega
            · obtain rfl : j = l := by omega
              obtain ⟨c8, y8, X8, cap8, T8, d8, x8, hX8, ha8⟩ := HSS.out
              have hev := hX8.few.2.2.1
              have hTl := hX8.few.1
              have HX8 := Lib.hid hX8
              have he1 : (d8.store i v).2.events < 900000000 := by have := store_ev (N := j) d8 i v hev; omega
              have he2 : ((d8.store i v).2.flush (i / 8)).2.events < 900000000 := by have := flush_ev (N := j + 1) (d8.store i v).2 (i / 8) (store_ev d8 i v hev); omega
              have he0 : d8.events < 900000000 := by omega
              have HT64 := Lib.hid (show ∀ q ∈ i :: T8, W64 q from fun q hq => by rcases List.mem_cons.1 hq with rfl | hq; (exact HI.out); exact hX8.t64 q hq)
              have HA8 := Lib.hid ha8
              have HEV := Lib.hid hev
              have HC1 := Lib.hid (sff1 ha8 v (show 0 ≤ i by omega) (show i < 512 by omega))
              have HTL := Lib.hid hTl
              clear hX8 ha8 hev hTl
              go_wp2_with (first
                | (go_at_call 17; refine (store_any HX8.out.dev HI.out v he0 (by have := HTL.out; omega)).mono ?_; rintro e w9 ⟨rfl, hD, hk⟩; rw [HC1.out.1]; have HX9 := Lib.hid (HX8.out.dev' hD hk ⟨.inl rfl, .inl rfl⟩ HT64.out (by have := HTL.out; simp; omega) (store_ev d8 i v HEV.out)); clear hD hk)
                | (go_at_call 15; refine (flush_any HX9.out.dev (i / 8) he1).mono ?_; rintro e w10 ⟨rfl, hD, hk⟩; rw [HC1.out.2]; have HX10 := Lib.hid (HX9.out.dev' hD hk ⟨.inl rfl, .inl rfl⟩ HX9.out.t64 (by have := HX9.out.few.1; omega) (flush_ev _ _ HX9.out.few.2.2.1)); obtain ⟨_, ks, _, hr, hmm, _⟩ := hD.my.size hD.ay; have HR := Lib.hid hr; have HMM := Lib.hid hmm; have HC2 := Lib.hid (sff HA8.out v (show 0 ≤ i by omega) (show i < 512 by omega) hr hmm); clear hD hk hr hmm)
                | (go_at_call 16; refine (fence_any HX10.out.dev HX10.out.t64 HR.out HMM.out he2).mono ?_; rintro e w11 ⟨rfl, hD, hk⟩; rw [HC2.out.2.2.1]; have HX11 := Lib.hid (HX10.out.dev' hD hk ⟨.inl rfl, .inl rfl⟩ HX10.out.t64 (by have := HX10.out.few.1; omega) (fence_ev _ _ HX10.out.few.2.2.1)); have HS2 := Lib.hid (show S2 w w11 t m s (j + 1 + 1 + 1) i v from ⟨_, _, _, _, _, _, _, HX11.out, ((HA8.out.store i v).flush (i / 8)).fence ks, HC2.out.2.2.2⟩); clear hD hk))
              clear HX8 HX9 HX10 HX11 HC1 HC2 HR HMM HT64 HA8 HSS HX he0 he1 he2 hj hlt HEV HTL
              go_loopw [72] (fun u wr => ∃ q : Nat, q ≤ l2 ∧ u = .int .i64 q ∧ S2 w wr t m s (j + 3 + q) i v) (fun u _ => l2 - (intOf u).toNat)
              case atStart => exact ⟨0, Nat.zero_le _, rfl, HS2.out⟩
              case round =>
                obtain ⟨q, hq, rfl, hS⟩ := hrel
                have hbr2 := hS.bel
                have HSS := Lib.hid hS
                clear hS
                by_cases hlt : q < l2
                · obtain ⟨g, off, rfl, hgl, k, hkj, hkm, c0, c1, c2, c3, hBk, hLk⟩ := (H2.out.below hbr2).at hlt
                  have HKI := Lib.hid (HY.out k hkm)
                  have HBK := Lib.hid (hBk.below ((Below.refl _ _).alloc (Nat.le_refl _) (.cells #[.int .i64 k.k, .int .i64 k.i, .int .u64 k.v, .slice k.ka k.kn k.kc] 31)))
                  have HLK := Lib.hid hLk
                  have HSA := Lib.hid (HSS.out.below ((Below.refl _ _).alloc (Nat.le_refl _) (.cells #[.int .i64 k.k, .int .i64 k.i, .int .u64 k.v, .slice k.ka k.kn k.kc] 31)))
                  have HSB := Lib.hid (HSA.out.mono (Nat.le_succ (j + 3 + q)))
                  have HST := Lib.hid HSB
                  clear hkj hkm hBk hLk
                  by_cases hk4 : k.k < 4
                  · by_cases hk0 : k.k ≤ 0
                    · by_cases hki : k.i = i
                      · have hkb : (k.i == i) = true := by rw [hki]; simp
                        clear hki
                        go_wp2
                        go_roundw
                        case rel => exact ⟨q + 1, by omega, by go_num, HSB.out⟩
                        case measure => simp [intOf]; omega
                      · have hkb : (k.i == i) = false := by simp [hki]
                        have HN := Lib.hid (show ¬ (k.k ≤ 0 ∧ k.i = i) from fun h => hki h.2)
                        clear hki
                        go_wp2_with (go_at_call 22; refine (HSA.out.doAny k HKI.out hk4 HN.out HBK.out HLK.out (by omega)).mono ?_; rintro e w7 ⟨bb, rfl, hS7⟩; have HS7 := Lib.hid hS7; clear hS7)
                        go_roundw
                        case rel => exact ⟨q + 1, by omega, by go_num, HS7.out⟩
                        case measure => simp [intOf]; omega
                    · have HN := Lib.hid (show ¬ (k.k ≤ 0 ∧ k.i = i) from fun h => hk0 h.1)
                      go_wp2_with (go_at_call 22; refine (HSA.out.doAny k HKI.out hk4 HN.out HBK.out HLK.out (by omega)).mono ?_; rintro e w7 ⟨bb, rfl, hS7⟩; have HS7 := Lib.hid hS7; clear hS7)
                      go_roundw
                      case rel => exact ⟨q + 1, by omega, by go_num, HS7.out⟩
                      case measure => simp [intOf]; omega
                  · go_wp2
                    go_roundw
                    case rel => exact ⟨q + 1, by omega, by go_num, HSB.out⟩
                    case measure => simp [intOf]; omega
                · obtain rfl : q = l2 := by omega
                  have h0i : 0 ≤ i := by omega
                  have h1i : i < 512 := by omega
                  have HCR := Lib.hid (HSS.out.crash cap3 (HB.out.below hbr2) HLO.out)
                  clear HSS HS2 HS hlt hq
                  go_wp2_with (first
                    | (go_at_call 20; refine HCR.out.mono ?_; rintro e w12 ⟨c9, y9, T9, d9, rfl, hD, hd1, hd2, hd3, hd4, hd5, hb12⟩; have HD9 := Lib.hid hD; have HN9 := Lib.hid hd5; have HB9 := Lib.hid hb12; clear hD hd5 hb12)
                    | (go_at_call 23; refine (load_any HD9.out HI.out).mono ?_; rintro e w13 ⟨rfl, rfl⟩; rw [hd1, hd2, fault_in h0i h1i, if_pos rfl, hd3])
                    | (go_at_call 24; refine (stays_any HD9.out HI.out).mono ?_; rintro e w14 ⟨rfl, rfl⟩; rw [hd4])
                    | (go_at_call 25; obtain ⟨ks, hr, hm5, hk5, hdd⟩ := dirtyD_any HD9.out; have hnil : ks = [] := by { cases ks with | nil => rfl | cons x ks => have := (hm5 x).1 List.mem_cons_self; rw [HN9.out x] at this; cases this }; subst hnil; refine hdd.mono ?_; clear hdd hr hm5 hk5; rintro e w15 ⟨X9, c9, rfl, _, _, hb15⟩; have HB15 := Lib.hid (HB9.out.trans (hb15.mono HB9.out.size)); clear hb15; rw [show ([] : List Int).length = 0 from rfl]))
                  go_ret
                  exact ⟨by simp, HB15.out⟩
end Go.Proofs.Ytdnoniolpplgiaa
