/- The law PmemDoes, walked. Printed by tools/e_does.py. -/
import Derived.Test.YtdnoniolpplgiaaRel3
import Derived.Test.YtdnoniolpplgiaaAlike
import Derived.Test.YtdnoniolpplgiaaCopy
import Derived.Test.YtdnoniolpplgiaaDoK2
import Derived.Test.YtdnoniolpplgiaaStays2
import Derived.BigQuiet
namespace Go.Proofs.Ytdnoniolpplgiaa
open Go.RowKit Go.Maps Go.Sort Go.Shelf

section
variable {w0 w w' : World} {t m c y s cap N bx : Nat} {X : Option Nat} {T : List Int} {d : Dv} {x : Rf} {i : Int}
theorem DX.copied (h : DX w0 w t m c y s X cap T d x N) {t' m' c' y' : Nat} (hD : DevIs w' t' m' c' y' T d) (hb : Below w.heap.size w w') (hn : ∀ i ∈ [t', m', c', y'], w.heap.size ≤ i) : DX w0 w' t' m' c' y' s X cap T d x N := by
  have hs := h.bel.size
  have hrl := h.ref.lt
  exact ⟨hD, h.ref.below hb, fun i hi hm => by have := hn i hi; have := hrl i hm; omega, ⟨fun i hi => Nat.le_trans hs (hn i hi), h.lo.2⟩, h.t64, h.few, h.ats, h.bel.trans (hb.mono hs)⟩
theorem DX.aside (h : DX w0 w t m c y s X cap T d x N) {S : List Nat} (hk : Kept S w w') (h1 : ∀ i ∈ [t, m, c, y], i ∉ S) (h2 : ∀ i ∈ refB s X, i ∉ S) (h3 : ∀ i ∈ S, w0.heap.size ≤ i) : DX w0 w' t m c y s X cap T d x N :=
  ⟨h.dev.kept hk h1, h.ref.kept hk h2, h.apart, h.lo, h.t64, h.few, h.ats, Kept.below h.bel hk h3 h.bel.size⟩
/-- Both, alike, and the deed's place. -/
structure LX (w0 w : World) (t m c y s : Nat) (X : Option Nat) (cap : Nat) (T : List Int) (d : Dv) (x : Rf) (N bx : Nat) (i : Int) : Prop where
  dx : DX w0 w t m c y s X cap T d x N
  rel : Rel d x
  bl : bx < w.heap.size
  cell : w.cell? ⟨bx, 1, none⟩ = some (.int .i64 i)
theorem LX.below (h : LX w0 w t m c y s X cap T d x N bx i) (hb : Below w.heap.size w w') : LX w0 w' t m c y s X cap T d x N bx i :=
  ⟨h.dx.below hb, h.rel, Nat.lt_of_lt_of_le h.bl hb.size, (hb.cell h.bl).trans h.cell⟩
theorem LX.loadA (h : LX w0 w t m c y s X cap T d x N bx i) (hi : W64 i) (hd : x.dead = true) : Calls Try.prog 23 #[.pointer (some ⟨t, 0, none⟩), .int .i64 i] w fun e w' => e = .returned (.tuple #[.int .u64 0, .int .i64 5]) ∧ w' = w := by
  have hl := load_any h.dx.dev hi
  have hf : faultD d.dead i d.n = 5 := by rw [h.rel.dead, hd]; rfl
  rw [hf, if_neg (by omega)] at hl
  exact hl
theorem LX.loadB (h : LX w0 w t m c y s X cap T d x N bx i) (hi : W64 i) (hd : x.dead = false) (ho : i < 0 ∨ x.n ≤ i) : Calls Try.prog 23 #[.pointer (some ⟨t, 0, none⟩), .int .i64 i] w fun e w' => e = .returned (.tuple #[.int .u64 0, .int .i64 90]) ∧ w' = w := by
  have hl := load_any h.dx.dev hi
  have hf : faultD d.dead i d.n = 90 := by rw [h.rel.dead, hd, h.rel.n]; unfold faultD; rw [if_neg (by simp), if_pos ho]
  rw [hf, if_neg (by omega)] at hl
  exact hl
theorem LX.loadD (h : LX w0 w t m c y s X cap T d x N bx i) (hi : W64 i) (hd : x.dead = false) (h0 : 0 ≤ i) (h1 : i < x.n) : Calls Try.prog 23 #[.pointer (some ⟨t, 0, none⟩), .int .i64 i] w fun e w' => e = .returned (.tuple #[.int .u64 (x.holds i), .int .i64 0]) ∧ w' = w := by
  have hl := load_any h.dx.dev hi
  have hf : faultD d.dead i d.n = 0 := by rw [h.rel.dead, hd, h.rel.n]; exact fault_in h0 h1
  rw [hf, if_pos rfl, (h.rel.holds i).1] at hl
  exact hl
theorem LX.load (h : LX w0 w t m c y s X cap T d x N bx i) (hi : W64 i) : ∃ V F : Int, Hid (Calls Try.prog 23 #[.pointer (some ⟨t, 0, none⟩), .int .i64 i] w fun e w' => e = .returned (.tuple #[.int .u64 V, .int .i64 F]) ∧ w' = w) ∧ Hid ((x.dead = true → V = 0 ∧ F = 5) ∧ (x.dead = false → (i < 0 ∨ x.n ≤ i) → V = 0 ∧ F = 90) ∧ (x.dead = false → 0 ≤ i → i < x.n → V = x.holds i ∧ F = 0)) := by
  by_cases hd : x.dead = true
  · exact ⟨0, 5, Lib.hid (h.loadA hi hd), Lib.hid ⟨fun _ => ⟨rfl, rfl⟩, fun h2 => (by rw [hd] at h2; cases h2), fun h2 => (by rw [hd] at h2; cases h2)⟩⟩
  · have hd2 : x.dead = false := by simpa using hd
    by_cases ho : i < 0 ∨ x.n ≤ i
    · exact ⟨0, 90, Lib.hid (h.loadB hi hd2 ho), Lib.hid ⟨fun h2 => absurd h2 hd, fun _ _ => ⟨rfl, rfl⟩, fun _ _ _ => by omega⟩⟩
    · exact ⟨_, 0, Lib.hid (h.loadD hi hd2 (by omega) (by omega)), Lib.hid ⟨fun h2 => absurd h2 hd, fun _ h2 => absurd h2 ho, fun _ _ _ => ⟨rfl, rfl⟩⟩⟩
theorem LX.stays (h : LX w0 w t m c y s X cap T d x N bx i) (hi : W64 i) : Calls Try.prog 24 #[.pointer (some ⟨t, 0, none⟩), .int .i64 i] w fun e w' => e = .returned (.int .u64 (x.stays i)) ∧ w' = w := by
  have hl := stays_any h.dx.dev hi
  rw [(h.rel.holds i).2] at hl
  exact hl
theorem LX.dirty (h : LX w0 w t m c y s X cap T d x N bx i) : Calls Try.prog 25 #[.pointer (some ⟨t, 0, none⟩)] w (NewInts (dirtyN x.ws) w) := by
  obtain ⟨ks, hr, hm, _, hc⟩ := dirtyD_any h.dx.dev
  rw [h.rel.dirty hr hm] at hc
  exact hc
theorem LX.deadD (h : LX w0 w t m c y s X cap T d x N bx i) : Calls Try.prog 18 #[.pointer (some ⟨t, 0, none⟩)] w fun e w' => e = .returned (.bool x.dead) ∧ w' = w := by
  have hl := deadD_any h.dx.dev
  rw [h.rel.dead] at hl
  exact hl
theorem LX.events (h : LX w0 w t m c y s X cap T d x N bx i) : Calls Try.prog 19 #[.pointer (some ⟨t, 0, none⟩)] w fun e w' => e = .returned (.int .i64 x.events) ∧ w' = w := by
  have hl := events_any h.dx.dev
  rw [h.rel.events] at hl
  exact hl
theorem LX.words (h : LX w0 w t m c y s X cap T d x N bx i) : Calls Try.prog 31 #[.pointer (some ⟨t, 0, none⟩)] w fun e w' => e = .returned (.int .i64 x.n) ∧ w' = w := by
  have hl := words_any h.dx.dev
  rw [h.rel.n] at hl
  exact hl
theorem LX.same (h : LX w0 w t m c y s X cap T d x N bx i) {A B : Option Addr} {ca cb : Nat} (hA : Ints w A (dirtyN x.ws).length (dirtyN x.ws)) (hB : Ints w B (dirtyN x.ws).length (dirtyN x.ws)) : Calls Try.prog 29 #[.slice A (dirtyN x.ws).length ca, .slice B (dirtyN x.ws).length cb] w fun e w' => e = .returned (.bool true) ∧ Below w.heap.size w w' := by
  have hl := dirtyN_len x.ws
  have hf := h.dx.ref.few
  refine (sameints_any ca cb hA hB (by unfold maxLen; omega) (by unfold maxLen; omega)).mono ?_
  rintro e w2 ⟨rfl, hb⟩
  exact ⟨by rw [decide_eq_true rfl], hb⟩
end

set_option maxRecDepth 100000 in
set_option maxHeartbeats 16000000 in
theorem does_walk {A : Option Addr} {l : Nat} {xs : List De} {w : World} (n : Int) (cap : Nat) (h : Deeds w w.heap.size A l xs) (hm : l ≤ maxLen) (hx : ∀ x ∈ xs, W64 x.i) : Calls Try.prog 5 #[.int .i64 n, .slice A l cap] w fun e w' => e = .returned (.bool true) ∧ Below w.heap.size w w' := by
  have CA := Lib.hid (awake_any w)
  have H := Lib.hid h
  have CF0 := fun w1 (hb : Below w.heap.size w w1) => few_any cap (h.below hb) hm
  have hlen := h.1
  have HX0 := Lib.hid hx
  unfold maxLen at hm
  clear h hx
  cases hfb : fewB xs with
  | false =>
    rw [hfb] at CF0
    have CF := Lib.hid CF0
    clear CF0 hfb
    go_enter Try.func5, Try.ntmps5
    go_wp2_with (first
      | (go_at_call 11; refine (CA.out).mono ?_; rintro e w1 ⟨rfl, hb1⟩)
      | (go_at_call 12; refine (CF.out w1 hb1).mono ?_; rintro e w2 ⟨rfl, hb2⟩; have hb3 := hb1.trans (hb2.mono hb1.size)))
    go_ret
    exact ⟨rfl, hb3⟩
  | true =>
    rw [hfb] at CF0
    have CF := Lib.hid CF0
    obtain ⟨hfl, hfk⟩ := fewB_le hfb
    clear CF0 hfb hfk
    go_enter Try.func5, Try.ntmps5
    go_wp2_with (first
      | (go_at_call 11; refine (CA.out).mono ?_; rintro e w1 ⟨rfl, hb1⟩)
      | (go_at_call 12; refine (CF.out w1 hb1).mono ?_; rintro e w2 ⟨rfl, hb2⟩; have hb3 := hb1.trans (hb2.mono hb1.size))
      | (go_at_call 13; refine (new_any w2 n).mono ?_; rintro e w5 ⟨t, m, c, y, rfl, hD, hb6, hlo⟩; have HD := Lib.hid hD; have hb7 := hb3.trans (hb6.mono hb3.size); have HL := Lib.hid (fun i hi => Nat.le_trans hb3.size (hlo i hi)); clear hD hlo hb6)
      | (go_at_call 21; refine (rnew_any w5 n).mono ?_; rintro e w6 ⟨rfl, hR, hb8⟩; have HS := Lib.hid (DX.start (w0 := w) hb7 HD.out HL.out hR hb8); clear hR hb8))
    generalize w5.heap.size = s at *
    clear HD HL
    go_loopw [5, 25] (fun v u wr => ∃ j : Nat, j ≤ l ∧ u = .int .i64 j ∧ ∃ t m c y X cap T d x, v = .pointer (some ⟨t, 0, none⟩) ∧ DX w wr t m c y s X cap T d x j ∧ Rel d x) (fun _ u _ => l - (intOf u).toNat)
    case atStart => exact ⟨0, Nat.zero_le _, rfl, t, m, c, y, none, 0, [], Dv.new n, Rf.new n, rfl, HS.out, rel_new n⟩
    case round =>
      clear HS
      obtain ⟨j, hj, rfl, t1, m1, c1, y1, X1, cap1, T1, d1, x1, rfl, hX, hRel⟩ := hrel
      have HXX := Lib.hid hX
      have HRR := Lib.hid hRel
      have hbr := hX.bel
      have hev := hX.few.2.2.1
      have hTl := hX.few.1
      have HND := Lib.hid (show wr.heap.size ∉ [t1, m1, c1, y1] from fun hm => Nat.lt_irrefl _ (hX.dev.lt _ hm))
      have HNR := Lib.hid (show wr.heap.size ∉ refB s X1 from fun hm => Nat.lt_irrefl _ (hX.ref.lt _ hm))
      clear hX hRel
      by_cases hlt : j < l
      · obtain ⟨g, off, rfl, hgl, k, hkj, hkm, k0, k1, k2, k3, hBk, hLk⟩ := (H.out.below hbr).at hlt
        have HKI := Lib.hid (HX0.out k hkm)
        have HLK := Lib.hid hLk
        have HBK := Lib.hid (hBk.below ((Below.refl _ _).alloc (Nat.le_refl _) (.cells #[.int .i64 k.k, .int .i64 k.i, .int .u64 k.v, .slice k.ka k.kn k.kc] 31)))
        have HXA := Lib.hid (HXX.out.below ((Below.refl _ _).alloc (Nat.le_refl _) (.cells #[.int .i64 k.k, .int .i64 k.i, .int .u64 k.v, .slice k.ka k.kn k.kc] 31)))
        clear hkj hkm hBk hLk
        go_upto_if 31 with fail
        go_cut [5] (fun v wx => ∃ t2 m2 c2 y2 X2 cap2 T2 d2 x2, v = .pointer (some ⟨t2, 0, none⟩) ∧ LX w wx t2 m2 c2 y2 s X2 cap2 T2 d2 x2 (j + 1) wr.heap.size k.i)
        case first =>
          by_cases hk6 : k.k = 6
          · have hkb : (k.k == 6) = true := by rw [hk6]; simp
            clear hk6
            have hA1 : ∀ i ∈ [t1, m1, c1, y1], i < (wr.alloc (.cells #[.int .i64 k.k, .int .i64 k.i, .int .u64 k.v, .slice k.ka k.kn k.kc] 31)).heap.size := HXA.out.dev.lt
            have HA1 := Lib.hid hA1
            clear hA1
            go_wp2_with (first
              | (go_at_call 26; refine (copy_any HXA.out.dev).mono ?_; rintro e w7 ⟨t2, m2, c2, y2, rfl, hD7, hb7c, hn7⟩; have HD7 := Lib.hid (HXA.out.dev.below hb7c); have HX7 := Lib.hid (HXA.out.copied hD7 hb7c hn7); have HN7 := Lib.hid (show ∀ i ∈ [t2, m2, c2, y2], i ∉ [t1, m1, c1, y1] from fun i hi hm => Nat.lt_irrefl _ (Nat.lt_of_lt_of_le (HA1.out i hm) (hn7 i hi))); have g0 : wr.heap.size < w7.heap.size := Nat.lt_of_lt_of_le (by simp) hb7c.size; have g1 : w7.cell? ⟨wr.heap.size, 1, none⟩ = some (.int .i64 k.i) := (hb7c.cell (by simp)).trans (by go_simp); have g2 : w7.cell? ⟨wr.heap.size, 2, none⟩ = some (.int .u64 k.v) := (hb7c.cell (by simp)).trans (by go_simp); clear hD7 hb7c hn7)
              | (go_at_call 17; refine (store_any HD7.out HKI.out k.v (by omega) (by omega)).mono ?_; rintro e w8 ⟨rfl, hD8, hk8⟩; have HD8 := Lib.hid hD8; have HX8 := Lib.hid (HX7.out.aside hk8 HN7.out (fun i hi hm => HXX.out.apart i hm hi) HXX.out.lo.1); have g3 : wr.heap.size < w8.heap.size := Nat.lt_of_lt_of_le g0 hk8.size; have g4 : w8.cell? ⟨wr.heap.size, 1, none⟩ = some (.int .i64 k.i) := (hk8.cell (a := ⟨wr.heap.size, 1, none⟩) g0 HND.out).trans g1; obtain ⟨_, ks, _, hr, hm, _⟩ := hD8.mc.size hD8.ac; have HR8 := Lib.hid hr; have HM8 := Lib.hid hm; clear hD8 hk8 hr hm)
              | (go_at_call 20; refine (crash_any HD8.out (fun q hq => by rcases List.mem_cons.1 hq with rfl | hq; (exact HKI.out); exact HXX.out.t64 q hq) HR8.out HM8.out (keep := []) 0 ⟨rfl, .inl rfl⟩ (fun h => absurd rfl h)).mono ?_; rintro e w9 ⟨c9, y9, rfl, _, hk9, _, _⟩; have HLF := Lib.hid (show LX w w9 t2 m2 c2 y2 s X1 cap1 T1 d1 x1 (j + 1) wr.heap.size k.i from ⟨(HX8.out.aside hk9 HN7.out (fun i hi hm => HXX.out.apart i hm hi) HXX.out.lo.1).mono (Nat.le_succ j), HRR.out, Nat.lt_of_lt_of_le g3 hk9.size, (hk9.cell (a := ⟨wr.heap.size, 1, none⟩) g3 HND.out).trans g4⟩); clear hk9))
            go_meet
            exact ⟨_, _, _, _, _, _, _, _, _, rfl, HLF.out⟩
          · have hkb : (k.k == 6) = false := by simp [hk6]
            clear hk6
            go_wp2_with (go_at_call 22; refine (dok_all HXA.out k HKI.out HBK.out HLK.out (by omega)).mono ?_; rintro e w7 ⟨c2, y2, X2, cap2, T2, r, rfl, hr, hX7, hk7, _⟩; obtain ⟨hr1, hr2⟩ := rel_do HRR.out hr; rw [hr1, decide_eq_true rfl]; obtain ⟨d2, x2, HL⟩ : ∃ d2 x2, Hid (LX w w7 t1 m1 c2 y2 s X2 cap2 T2 d2 x2 (j + 1) wr.heap.size k.i) := ⟨_, _, Lib.hid ⟨hX7, hr2, by have := hk7.size; simp at this; omega, (hk7.cell (a := ⟨wr.heap.size, 1, none⟩) (by simp) (fun hm => by rcases List.mem_append.1 hm with h | h; (exact HND.out h); (exact HNR.out h))).trans (by go_simp)⟩⟩; clear hr hr1 hr2 hX7 hk7)
            go_meet
            exact ⟨_, _, _, _, _, _, _, _, _, rfl, HL.out⟩
        case rest =>
          clear k0 k1 k2 k3
          obtain ⟨t2, m2, c2, y2, X2, cap2, T2, d2, x2, rfl, hL⟩ := hcut
          have HL := Lib.hid hL
          have qb := hL.cell
          have qd := hL.dx.ref.c3
          clear hL
          obtain ⟨V, F, HLD, HV⟩ := HL.out.load HKI.out
          go_upto_if 62 with (first
            | (go_at_call 23; refine (HLD.out).mono ?_; rintro e w13 ⟨rfl, rfl⟩)
            | (go_at_call 27; refine (rholds_any HL.out.dx.ref k.i).mono ?_; rintro e w14 ⟨rfl, hb14⟩; have HH := Lib.hid (HL.out.below hb14); have q1 := HH.out.cell; have q2 := HH.out.dx.ref.c0; have q3 := HH.out.dx.ref.c3; clear hb14))
          clear qb qd HLD
          go_cut [12, 13] (fun a b wx => a = .int .i64 F ∧ b = .int .u64 V ∧ LX w wx t2 m2 c2 y2 s X2 cap2 T2 d2 x2 (j + 1) wr.heap.size k.i)
          case first =>
            by_cases hdd : x2.dead = true
            · obtain ⟨rfl, rfl⟩ := HV.out.1 hdd
              rw [hdd]
              go_wp2
              go_meet
              exact ⟨rfl, rfl, HH.out⟩
            · have hd2 : x2.dead = false := by simpa using hdd
              clear hdd
              rw [hd2]
              by_cases h0 : k.i < 0
              · obtain ⟨rfl, rfl⟩ := HV.out.2.1 hd2 (.inl h0)
                have hdec : decide (k.i < 0) = true := by simp [h0]
                go_upto_region 20 with fail
                go_quiet (fail)
                go_wp2
                go_meet
                exact ⟨rfl, rfl, HH.out.below (by first | exact below_drewN (Below.refl _ _) _ | exact (Below.refl _ _).drew)⟩
              · have hdec : decide (k.i < 0) = false := by simp [h0]
                by_cases h1 : x2.n ≤ k.i
                · obtain ⟨rfl, rfl⟩ := HV.out.2.1 hd2 (.inr h1)
                  have hdec2 : decide (x2.n ≤ k.i) = true := by simp [h1]
                  go_upto_region 20 with fail
                  go_quiet (fail)
                  go_wp2
                  go_meet
                  exact ⟨rfl, rfl, HH.out.below (by first | exact below_drewN (Below.refl _ _) _ | exact (Below.refl _ _).drew)⟩
                · obtain ⟨rfl, rfl⟩ := HV.out.2.2 hd2 (by omega) (by omega)
                  have hdec2 : decide (x2.n ≤ k.i) = false := by simp [h1]
                  go_upto_region 20 with fail
                  go_quiet (fail)
                  go_wp2
                  go_meet
                  exact ⟨rfl, rfl, HH.out.below (by first | exact below_drewN (Below.refl _ _) _ | exact (Below.refl _ _).drew)⟩
          case rest =>
            obtain ⟨rfl, rfl, hZ⟩ := hcut
            have HZ := Lib.hid (hZ.below (Below.refl _ _).drew)
            have z1 := hZ.cell
            have z2 := hZ.dx.ref.c0
            have z3 := hZ.dx.ref.c3
            have z4 := hZ.dx.ref.c4
            clear hZ q1 q2 q3 HH HV HL
            go_upto_region 22 with fail
            go_region_held3 (fun w' => w'.cell? ⟨wr.heap.size, 1, none⟩ = some (.int .i64 k.i) ∧ w'.cell? ⟨s, 0, none⟩ = some (.int .i64 x2.n) ∧ w'.cell? ⟨s, 3, none⟩ = some (.bool x2.dead) ∧ w'.cell? ⟨s, 4, none⟩ = some (.int .i64 x2.events))
              (first | go_keep | exact ⟨by assumption, by assumption, by assumption, by assumption⟩)
              ((first
                | (go_at_call 24; refine (HZ.out.stays HKI.out).mono ?_; rintro e w30 ⟨rfl, rfl⟩)
                | (go_at_call 28; refine (rstays_any HZ.out.dx.ref k.i).mono ?_; rintro e w31 ⟨rfl, hb31⟩; have H31 := Lib.hid (HZ.out.below hb31); have p1 := H31.out.cell; have p2 := H31.out.dx.ref.c0; have p3 := H31.out.dx.ref.c3; have p4 := H31.out.dx.ref.c4; clear hb31)
                | (go_at_call 25; refine (H31.out.dirty).mono ?_; rintro e w32 ⟨A32, c32, rfl, hI32, _, hb32⟩; have H32 := Lib.hid (H31.out.below hb32); have HI32 := Lib.hid hI32; have o1 := H32.out.cell; have o2 := H32.out.dx.ref.c0; have o3 := H32.out.dx.ref.c3; have o4 := H32.out.dx.ref.c4; clear hb32 hI32)
                | (go_at_call 30; refine (rdirty_any H32.out.dx.ref).mono ?_; rintro e w33 ⟨A33, c33, rfl, hI33, _, hb33⟩; have H33 := Lib.hid (H32.out.below hb33); have HI33 := Lib.hid hI33; have HJ33 := Lib.hid (HI32.out.below hb33); have n1 := H33.out.cell; have n2 := H33.out.dx.ref.c0; have n3 := H33.out.dx.ref.c3; have n4 := H33.out.dx.ref.c4; clear hb33 hI33)
                | (go_at_call 29; refine (H33.out.same HJ33.out HI33.out).mono ?_; rintro e w34 ⟨rfl, hb34⟩; have H34 := Lib.hid (H33.out.below hb34); have r1 := H34.out.cell; have r2 := H34.out.dx.ref.c0; have r3 := H34.out.dx.ref.c3; have r4 := H34.out.dx.ref.c4; clear hb34)
                | (go_at_call 18; refine (H34.out.deadD).mono ?_; rintro e w35 ⟨rfl, rfl⟩)
                | (go_at_call 31; refine (H34.out.words).mono ?_; rintro e w36 ⟨rfl, rfl⟩)
                | (go_at_call 19; refine (H34.out.events).mono ?_; rintro e w37 ⟨rfl, rfl⟩)))
            go_wp2
            go_roundw
            case rel => exact ⟨j + 1, by omega, by go_num, t2, m2, c2, y2, X2, cap2, T2, d2, x2, rfl, H34.out.dx, H34.out.rel⟩
            case measure => simp [intOf]; omega
      · obtain rfl : j = l := by omega
        have HB1 := Lib.hid HXX.out.bel
        go_wp2
        go_ret
        exact ⟨rfl, HB1.out⟩
end Go.Proofs.Ytdnoniolpplgiaa
