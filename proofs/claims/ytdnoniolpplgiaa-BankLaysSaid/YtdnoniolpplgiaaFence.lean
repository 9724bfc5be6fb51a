/- A device's Fence, Evict, Crash: contracts. -/
import Derived.Test.YtdnoniolpplgiaaFlush
import Derived.StillTailTactics
namespace Go.Proofs.Ytdnoniolpplgiaa
open Go.RowKit Go.Maps Go.Sort Go.Shelf
section
variable {w : World} {t m c y : Nat} {T : List Int} {d : Dv}
set_option maxRecDepth 100000 in
set_option maxHeartbeats 4000000 in
theorem fence1_any (h : DevIs w t m c y T d) (hT64 : ∀ i ∈ T, W64 i) {ks : List Int} (hr : Ris ks) (hm : ∀ k, k ∈ ks ↔ (d.way k).isSome = true) (p0 : Nat) (q0 : w.cell? ⟨p0, 0, none⟩ = some (.pointer (some ⟨t, 0, none⟩))) (hp : p0 ∉ [t, m, c, y]) (hl : p0 < w.heap.size) :
    Calls Try.prog 52 #[.pointer (some ⟨p0, 0, none⟩)] w (Left t m c y T (d.fences ks) w) := by
  have HR := Lib.hid hr
  have HMM := Lib.hid hm
  have H64 := Lib.hid hT64
  clear hm hr hT64
  obtain ⟨ks2, hr2, hm2, hle, CS0⟩ := keysOf h.my h.ay h.tf
  obtain rfl : ks = ks2 := ris_ext HR.out hr2 (fun k => by rw [HMM.out, hm2])
  have CS := Lib.hid CS0
  have CK := Lib.hid (keys_call (some y) w)
  have H := Lib.hid h
  have hlt := h.lt
  have HLT := Lib.hid hlt
  have hc3 := h.c3
  have htf := h.tf
  have HP := Lib.hid hp
  have HQ := Lib.hid q0
  clear h hlt hp CS0 hr2 hm2
  go_enter Try.func52, Try.ntmps52
  go_wp2_with (first
    | (go_at_call 54; refine (CK.out).mono ?_; rintro e w' ⟨rfl, hw⟩; rw [hw]; clear hw w')
    | (go_at_call 53; refine (CS.out).mono ?_; rintro e w2 ⟨X, c', rfl, hI, hX, hb⟩; have HI := Lib.hid hI; have HX := Lib.hid hX; clear hI hX))
  clear q0 hc3
  go_loopw [10] (fun k wr => ∃ j : Nat, j ≤ ks.length ∧ k = .int .i64 j ∧ DevIs wr t m c y T (d.fences (ks.take j)) ∧ Kept [t, m, c, y] w2 wr) (fun k _ => ks.length - (intOf k).toNat)
  case atStart => exact ⟨0, Nat.zero_le _, rfl, H.out.below hb, Kept.refl _ _⟩
  case round =>
    obtain ⟨j, hj, rfl, hD, hk⟩ := hrel
    have hbs := hb.size
    by_cases hlt : j < ks.length
    · obtain ⟨g, off, rfl, hgl, x, hx, c0⟩ := (HI.out.kept hk (fun a ha hm => by have := HX.out a ha; have := HLT.out _ hm; omega)).at hlt
      have hxT : x ∈ T := H.out.ay x ((HMM.out x).1 (List.mem_of_getElem? hx))
      have hw64 := H64.out x hxT
      have hdr := (Below.refl wr.heap.size wr).drew
      have hDd := hD.below hdr
      have LC := (hDd.my.look hw64).1
      have LC2 := (hD.my.look hw64).1
      have hc3 := hD.c3
      have hqr := ((hk.cell (a := ⟨p0, 0, none⟩) (Nat.lt_of_lt_of_le hl hbs) HP.out).trans (hb.cell hl)).trans HQ.out
      have HS := Lib.hid (show d.fences (ks.take (j + 1)) = (d.fences (ks.take j)).persist x (((d.fences (ks.take j)).way x).getD 0) from by rw [take_snoc hx, fences_snoc]; rfl)
      have HDd := Lib.hid hDd
      have HT := Lib.hid hxT
      have HW := Lib.hid hw64
      have HK := Lib.hid (hk.trans (Kept.of_below hdr))
      clear hD hDd hx hxT hw64 hdr
      go_upto_region 3 with fail
      go_still_tail 8, (by kernel_rfl)
      change wpList _ _ _ _ _ wr.drew
      go_wp2_with (go_at_call 55; refine (persist_any HDd.out HW.out HT.out _).mono ?_; rintro e w4 ⟨rfl, hD4, hk4⟩; have HD4 := Lib.hid hD4; have HK4 := Lib.hid (HK.out.trans hk4); clear hD4 hk4)
      go_roundw
      case rel => exact ⟨j + 1, by omega, by go_num, by rw [HS.out]; exact HD4.out, HK4.out⟩
      case measure => simp [intOf]; omega
    · obtain rfl : j = ks.length := by omega
      rw [List.take_length] at hD
      have HD := Lib.hid hD
      clear hD
      go_wp2
      go_end0
      exact ⟨rfl, HD.out, (Kept.of_below hb).trans hk⟩

/-- What Fence answers, and leaves. -/
def Dv.fenceR (d : Dv) (ks : List Int) : Int × Dv := if d.dead = true then (5, d) else if d.armed = 1 then (5, d.cut) else (0, d.tick.fences ks)

set_option maxRecDepth 100000 in
set_option maxHeartbeats 4000000 in
theorem fence_any (h : DevIs w t m c y T d) (hT64 : ∀ i ∈ T, W64 i) {ks : List Int} (hr : Ris ks) (hm : ∀ k, k ∈ ks ↔ (d.way k).isSome = true) (he : d.events < 900000000) :
    Calls Try.prog 16 #[.pointer (some ⟨t, 0, none⟩)] w (Said t m c y T (d.fenceR ks) w) := by
  have H := Lib.hid h
  have hlt := h.lt
  have H64 := Lib.hid hT64
  have HR := Lib.hid hr
  have HMM := Lib.hid hm
  have ha1 : Below w.heap.size w (w.alloc (.cells #[.pointer (some ⟨t, 0, none⟩)] 25)) := (Below.refl _ _).alloc (Nat.le_refl _) _
  have HB := Lib.hid ha1
  have CF0 := fault_any (h.below ha1) 0 1
  have hn : ∀ k, w.heap.size ≤ k → k ∉ [t, m, c, y] := fun k hk hm => by have := hlt k hm; omega
  have HN := Lib.hid hn
  unfold Dv.fenceR
  clear h hlt ha1 hn hr hm hT64
  cases hd : d.dead with
  | true =>
    rw [hd] at CF0
    have CF := Lib.hid (show Calls Try.prog 47 _ _ fun e w' => e = .returned (.int .i64 5) ∧ w' = _ from CF0)
    rw [if_pos rfl]
    clear hd CF0
    go_enter Try.func16, Try.ntmps16
    go_wp2_with (go_at_call 47; refine (CF.out).mono ?_; rintro e w' ⟨rfl, hw⟩; rw [hw]; clear hw w')
    go_ret
    exact ⟨rfl, H.out.below HB.out, Kept.of_below HB.out⟩
  | false =>
    rw [hd] at CF0
    have CF := Lib.hid (show Calls Try.prog 47 _ _ fun e w' => e = .returned (.int .i64 0) ∧ w' = _ from CF0)
    rw [if_neg (by simp)]
    clear hd CF0
    by_cases ha : d.armed = 1
    · rw [if_pos ha]
      go_enter Try.func16, Try.ntmps16
      go_wp2_with (first
        | (go_at_call 47; refine (CF.out).mono ?_; rintro e w' ⟨rfl, hw⟩; rw [hw]; clear hw w')
        | (go_at_call 49; refine (guarded_cut52 (H.out.below HB.out) ha _).mono ?_; rintro e w4 ⟨rfl, hD4, hk4⟩; have HD4 := Lib.hid hD4; have HK4 := Lib.hid ((Kept.of_below HB.out).trans hk4); clear hD4 hk4))
      go_ret
      exact ⟨rfl, HD4.out, HK4.out⟩
    · rw [if_neg ha]
      go_enter Try.func16, Try.ntmps16
      go_wp2_with (first
        | (go_at_call 47; refine (CF.out).mono ?_; rintro e w' ⟨rfl, hw⟩; rw [hw]; clear hw w')
        | (go_at_call 49; refine (guarded_go52 (T' := T) (d' := d.tick.fences ks) (H.out.below HB.out) ha he _ ?c1).mono ?_; rotate_left; rintro e w4 ⟨rfl, hD4, hk4⟩; have HD4 := Lib.hid hD4; have HK4 := Lib.hid ((Kept.of_below HB.out).trans hk4); clear hD4 hk4))
      case c1 =>
        intro w1 hD1 hk1
        exact fence1_any hD1 H64.out HR.out HMM.out _ ((hk1.cell (by simp <;> omega) (HN.out _ (by simp <;> omega))).trans (by go_simp)) (HN.out _ (by omega)) (Nat.lt_of_lt_of_le (by simp <;> omega) hk1.size)
      go_ret
      exact ⟨rfl, HD4.out, HK4.out⟩
theorem fence_nil (w : World) : Calls Try.prog 16 #[.pointer none] w fun e w' => e = .returned (.int .i64 91) ∧ Below w.heap.size w w' := by
  have hb : Below w.heap.size w (w.alloc (.cells #[.pointer none] 25)) := (Below.refl _ _).alloc (Nat.le_refl _) _
  have HB := Lib.hid hb
  clear hb
  go_enter Try.func16, Try.ntmps16
  go_wp2_with (go_at_call 47; refine (fault_nil _ _ _).mono ?_; rintro e w' ⟨rfl, hw⟩; rw [hw]; clear hw w')
  go_ret
  exact ⟨rfl, HB.out⟩
theorem flush_nil (w : World) (i : Int) : Calls Try.prog 15 #[.pointer none, .int .i64 i] w fun e w' => e = .returned (.int .i64 91) ∧ Below w.heap.size w w' := by
  have ha3 : Below w.heap.size w ((w.alloc (.cells #[.pointer none] 25)).alloc (.cells #[.int .i64 i] 3)) := ((Below.refl _ _).alloc (Nat.le_refl _) _).alloc (by simp) _
  have HB := Lib.hid ha3
  clear ha3
  go_enter Try.func15, Try.ntmps15
  go_upto_region 1 with fail
  go_quiet ((first | (go_at_call 48; exact Calls.quiet_of_same (lines_nil _)) | (go_at_call 47; exact Calls.quiet_of_same (fault_nil _ _ _))))
  go_wp2
  go_ret
  exact ⟨rfl, below_drewN HB.out _⟩

/-- What Evict answers, and leaves. -/
def Dv.evict (d : Dv) (line : Int) : Bool × Dv := if faultD d.dead line d.lines ≠ 0 then (false, d) else (decide (0 < (lineN d line 8).length), d.keeps (lineN d line 8))
theorem evict_bad {d : Dv} {i : Int} (h : faultD d.dead i d.lines ≠ 0) : d.evict i = (false, d) := if_pos h
theorem evict_go {d : Dv} {i : Int} (h : faultD d.dead i d.lines = 0) : d.evict i = (decide (0 < (lineN d i 8).length), d.keeps (lineN d i 8)) := if_neg (by simp [h])
theorem evict_nil (w : World) (i : Int) : Calls Try.prog 32 #[.pointer none, .int .i64 i] w fun e w' => e = .returned (.bool false) ∧ w' = w := by
  go_enter Try.func32, Try.ntmps32
  go_wp2_with (first
    | (go_at_call 48; refine (lines_nil _).mono ?_; rintro e w' ⟨rfl, hw⟩; rw [hw]; clear hw w')
    | (go_at_call 47; refine (fault_nil _ _ _).mono ?_; rintro e w' ⟨rfl, hw⟩; rw [hw]; clear hw w'))
  go_ret
  exact ⟨rfl, rfl⟩

set_option maxRecDepth 100000 in
set_option maxHeartbeats 4000000 in
theorem evict_any (h : DevIs w t m c y T d) (line : Int) : Calls Try.prog 32 #[.pointer (some ⟨t, 0, none⟩), .int .i64 line] w fun e w' => e = .returned (.bool (d.evict line).1) ∧ DevIs w' t m c y T (d.evict line).2 ∧ Kept [t, m, c, y] w w' := by
  have H := Lib.hid h
  have hlt := h.lt
  have HLT := Lib.hid hlt
  have hnb := h.nb
  have CF0 := fault_any h line d.lines
  have CW := Lib.hid (lines_any h)
  by_cases hf : faultD d.dead line d.lines = 0
  · obtain ⟨_, hl0, hl1⟩ := fault_ok hf
    have hl2 : line ≤ 4194304 := by unfold Dv.lines at hl1; omega
    rw [evict_go hf]
    rw [hf] at CF0
    have CF := Lib.hid CF0
    have CD := Lib.hid (dirty_any h hl0 hl2)
    have hmem := fun i hi => lineN_mem (d := d) (line := line) (j := 8) (i := i) hi
    have HM := Lib.hid hmem
    have hlen := lineN_len d line 8
    clear h hlt hf hl1 CF0 hmem
    generalize lineN d line 8 = ls at *
    go_enter Try.func32, Try.ntmps32
    go_wp2_with (first
      | (go_at_call 48; refine (CW.out).mono ?_; rintro e w' ⟨rfl, hw⟩; rw [hw]; clear hw w')
      | (go_at_call 47; refine (CF.out).mono ?_; rintro e w' ⟨rfl, hw⟩; rw [hw]; clear hw w')
      | (go_at_call 51; refine (CD.out).mono ?_; rintro e w2 ⟨X, c', rfl, hI, hX, hb⟩; have HI := Lib.hid hI; have HX := Lib.hid hX; clear hI hX))
    go_loopw [19] (fun k wr => ∃ j : Nat, j ≤ ls.length ∧ k = .int .i64 j ∧ DevIs wr t m c y T (d.keeps (ls.take j)) ∧ Kept [t, m, c, y] w2 wr) (fun k _ => ls.length - (intOf k).toNat)
    case atStart => exact ⟨0, Nat.zero_le _, rfl, H.out.below hb, Kept.refl _ _⟩
    case round =>
      obtain ⟨j, hj, rfl, hD, hk⟩ := hrel
      have hbs := hb.size
      by_cases hlt : j < ls.length
      · obtain ⟨g, off, rfl, hgl, x, hx, c0⟩ := (HI.out.kept hk (fun a ha hm => by have := HX.out a ha; have := HLT.out _ hm; omega)).at hlt
        obtain ⟨hx1, k, hk8, hxk⟩ := HM.out x (List.mem_of_getElem? hx)
        have hw64 : W64 x := by unfold W64; omega
        have hxT : x ∈ T := H.out.ac x hx1
        have LC := (hD.mc.look hw64).1
        have hc2 := hD.c2
        have HS := Lib.hid (show d.keeps (ls.take (j + 1)) = (d.keeps (ls.take j)).persist x (((d.keeps (ls.take j)).cache x).getD 0) from by rw [take_snoc hx, keeps_snoc])
        have HDd := Lib.hid hD
        have HT := Lib.hid hxT
        have HW := Lib.hid hw64
        have HK := Lib.hid hk
        clear hD hx hx1 hxk hxT hw64
        go_wp2_with (go_at_call 55; refine (persist_any HDd.out HW.out HT.out _).mono ?_; rintro e w4 ⟨rfl, hD4, hk4⟩; have HD4 := Lib.hid hD4; have HK4 := Lib.hid (HK.out.trans hk4); clear hD4 hk4)
        go_roundw
        case rel => exact ⟨j + 1, by omega, by go_num, by rw [HS.out]; exact HD4.out, HK4.out⟩
        case measure => simp [intOf]; omega
      · obtain rfl : j = ls.length := by omega
        rw [List.take_length] at hD
        have HD := Lib.hid hD
        clear hD
        go_wp2
        go_ret
        refine ⟨?_, HD.out, (Kept.of_below hb).trans hk⟩
        simp
  · rw [evict_bad hf]
    have hfb : (faultD d.dead line d.lines != 0) = true := by simp [hf]
    have CF := Lib.hid CF0
    clear hf h CF0 hlt
    generalize faultD d.dead line d.lines = f at *
    go_enter Try.func32, Try.ntmps32
    go_wp2_with (first
      | (go_at_call 48; refine (CW.out).mono ?_; rintro e w' ⟨rfl, hw⟩; rw [hw]; clear hw w')
      | (go_at_call 47; refine (CF.out).mono ?_; rintro e w' ⟨rfl, hw⟩; rw [hw]; clear hw w'))
    go_ret
    exact ⟨rfl, H.out, Kept.refl _ _⟩
end
end Go.Proofs.Ytdnoniolpplgiaa
