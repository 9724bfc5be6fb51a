/- A device's Flush and Fence: contracts. -/
import Derived.Test.YtdnoniolpplgiaaList
namespace Go.Proofs.Ytdnoniolpplgiaa
open Go.RowKit Go.Maps Go.Sort Go.Shelf

def Dv.send (d : Dv) (i : Int) : Dv := { d with way := setF d.way i ((d.cache i).getD 0) }
def Dv.sends (d : Dv) (l : List Int) : Dv := l.foldl Dv.send d
theorem sends_snoc (d : Dv) (l : List Int) (i : Int) : d.sends (l ++ [i]) = (d.sends l).send i := by unfold Dv.sends; rw [List.foldl_append]; rfl
theorem sends_cache (l : List Int) : ∀ d : Dv, (d.sends l).cache = d.cache := by
  induction l with
  | nil => intro d; rfl
  | cons x l ih => intro d; exact ih (d.send x)
def Dv.fence (d : Dv) (i : Int) : Dv := d.persist i ((d.way i).getD 0)
def Dv.fences (d : Dv) (l : List Int) : Dv := l.foldl Dv.fence d
theorem fences_snoc (d : Dv) (l : List Int) (i : Int) : d.fences (l ++ [i]) = (d.fences l).fence i := by unfold Dv.fences; rw [List.foldl_append]; rfl
def Dv.keeps (d : Dv) (l : List Int) : Dv := l.foldl (fun d i => d.persist i ((d.cache i).getD 0)) d
theorem keeps_snoc (d : Dv) (l : List Int) (i : Int) : d.keeps (l ++ [i]) = (d.keeps l).persist i (((d.keeps l).cache i).getD 0) := by unfold Dv.keeps; rw [List.foldl_append]; rfl

theorem lineN_mem {d : Dv} {line : Int} {j : Nat} {i : Int} (h : i ∈ lineN d line j) : (d.cache i).isSome = true ∧ ∃ k : Nat, k < j ∧ i = line * 8 + k := by
  unfold lineN at h
  rw [List.mem_filter, List.mem_map] at h
  obtain ⟨⟨k, hk, rfl⟩, h2⟩ := h
  exact ⟨h2, k, List.mem_range.1 hk, rfl⟩

section
variable {w : World} {t m c y : Nat} {T : List Int} {d : Dv}
set_option maxRecDepth 100000 in
set_option maxHeartbeats 4000000 in
theorem flush1_any (h : DevIs w t m c y T d) {line : Int} (h0 : 0 ≤ line) (h1 : line ≤ 4194304) (p0 p1 : Nat)
    (q0 : w.cell? ⟨p0, 0, none⟩ = some (.pointer (some ⟨t, 0, none⟩))) (q1 : w.cell? ⟨p1, 0, none⟩ = some (.int .i64 line)) (hp : p0 ∉ [t, m, c, y]) (hl : p0 < w.heap.size) :
    Calls Try.prog 50 #[.pointer (some ⟨p0, 0, none⟩), .pointer (some ⟨p1, 0, none⟩)] w (Left t m c y T (d.sends (lineN d line 8)) w) := by
  have CD := Lib.hid (dirty_any h h0 h1)
  have H := Lib.hid h
  have hlt := h.lt
  have HLT := Lib.hid hlt
  have hlen := lineN_len d line 8
  have hmem := fun i hi => lineN_mem (d := d) (line := line) (j := 8) (i := i) hi
  have HM := Lib.hid hmem
  have HP := Lib.hid hp
  have HQ := Lib.hid q0
  clear h hlt hmem hp
  go_enter Try.func50, Try.ntmps50
  go_wp2_with (go_at_call 51; refine (CD.out).mono ?_; rintro e w2 ⟨X, c', rfl, hI, hX, hb⟩; have HI := Lib.hid hI; have HX := Lib.hid hX; clear hI hX)
  generalize lineN d line 8 = ls at *
  go_loopw [8] (fun k wr => ∃ j : Nat, j ≤ ls.length ∧ k = .int .i64 j ∧ DevIs wr t m c y T (d.sends (ls.take j)) ∧ Kept [t, m, c, y] w2 wr) (fun k _ => ls.length - (intOf k).toNat)
  case atStart => exact ⟨0, Nat.zero_le _, rfl, H.out.below hb, Kept.refl _ _⟩
  case round =>
    obtain ⟨j, hj, rfl, hD, hk⟩ := hrel
    have HK := Lib.hid hk
    have hbs := hb.size
    by_cases hlt : j < ls.length
    · obtain ⟨g, off, rfl, hgl, x, hx, c0⟩ := (HI.out.kept hk (fun a ha hm => by have := HX.out a ha; have := HLT.out _ hm; omega)).at hlt
      have hxm := HM.out x (List.mem_of_getElem? hx)
      obtain ⟨hx1, k, hk8, hxk⟩ := hxm
      have hw64 : W64 x := by unfold W64; omega
      have hDd := hD.below ((Below.refl wr.heap.size wr).drew)
      have LC := (hDd.mc.look hw64).1
      have hcx : (d.sends (ls.take j)).cache x = d.cache x := by rw [sends_cache]
      have hxT : x ∈ T := H.out.ac x hx1
      obtain ⟨w3, hrun3, hm3, ht3⟩ := run_putF hDd.my hDd.ay hDd.tf hw64 (((d.sends (ls.take j)).cache x).getD 0)
      have HT3 := Lib.hid (hDd.turnY ht3.grown hm3 (among_set hDd.ay hxT (((d.sends (ls.take j)).cache x).getD 0)))
      have HK3 := Lib.hid ((hk.trans (Kept.of_below ((Below.refl wr.heap.size wr).drew))).trans (Kept.of_grown (S := [t, m, c, y]) ht3.grown (by simp)))
      have hc2 := hD.c2
      have hc3 := hD.c3
      have hqr := ((hk.cell (a := ⟨p0, 0, none⟩) (Nat.lt_of_lt_of_le hl hbs) HP.out).trans (hb.cell hl)).trans HQ.out
      have HS := Lib.hid (show d.sends (ls.take (j + 1)) = { d.sends (ls.take j) with way := setF (d.sends (ls.take j)).way x (((d.sends (ls.take j)).cache x).getD 0) } from by rw [take_snoc hx, sends_snoc]; rfl)
      clear hD hDd hm3 ht3 hx hx1 hxk hcx hw64
      generalize ((d.sends (ls.take j)).cache x).getD 0 = vv at *
      go_upto_region 3 with fail
      go_region
      go_wp2
      go_roundw
      case rel => exact ⟨j + 1, by omega, by go_num, by rw [HS.out]; exact HT3.out, HK3.out⟩
      case measure => simp [intOf]; omega
    · obtain rfl : j = ls.length := by omega
      rw [List.take_length] at hD
      have HD := Lib.hid hD
      clear hD
      go_wp2
      go_end0
      exact ⟨rfl, HD.out, (Kept.of_below hb).trans hk⟩

/-- What Flush answers, and leaves. -/
def Dv.flush (d : Dv) (line : Int) : Int × Dv := if faultD d.dead line d.lines ≠ 0 then (faultD d.dead line d.lines, d) else if d.armed = 1 then (5, d.cut) else (0, d.tick.sends (lineN d line 8))
theorem flush_bad {d : Dv} {i : Int} (h : faultD d.dead i d.lines ≠ 0) : d.flush i = (faultD d.dead i d.lines, d) := if_pos h
theorem flush_cut {d : Dv} {i : Int} (h : faultD d.dead i d.lines = 0) (ha : d.armed = 1) : d.flush i = (5, d.cut) := by unfold Dv.flush; rw [if_neg (by simp [h]), if_pos ha]
theorem flush_go {d : Dv} {i : Int} (h : faultD d.dead i d.lines = 0) (ha : d.armed ≠ 1) : d.flush i = (0, d.tick.sends (lineN d i 8)) := by unfold Dv.flush; rw [if_neg (by simp [h]), if_neg ha]
theorem fault_ok {dead : Bool} {i many : Int} (h : faultD dead i many = 0) : dead = false ∧ 0 ≤ i ∧ i < many := by
  unfold faultD at h
  cases dead with
  | true => simp at h
  | false =>
    rw [if_neg (by simp)] at h
    by_cases hi : i < 0 ∨ many ≤ i
    · rw [if_pos hi] at h; omega
    · exact ⟨rfl, by omega, by omega⟩
theorem lineN_tick (d : Dv) (line : Int) (j : Nat) : lineN d.tick line j = lineN d line j := rfl

set_option maxRecDepth 100000 in
set_option maxHeartbeats 4000000 in
theorem flush_any (h : DevIs w t m c y T d) (line : Int) (he : d.events < 900000000) :
    Calls Try.prog 15 #[.pointer (some ⟨t, 0, none⟩), .int .i64 line] w (Said t m c y T (d.flush line) w) := by
  have H := Lib.hid h
  have hlt := h.lt
  have hnb := h.nb
  have CF := Lib.hid (fun w' (hb : Below w.heap.size w w') => fault_any (h.below hb) line d.lines)
  have CW := Lib.hid (fun w' (hb : Below w.heap.size w w') => lines_any (h.below hb))
  have ha3 : Below w.heap.size w ((w.alloc (.cells #[.pointer (some ⟨t, 0, none⟩)] 25)).alloc (.cells #[.int .i64 line] 3)) := ((Below.refl _ _).alloc (Nat.le_refl _) _).alloc (by simp) _
  have HB := Lib.hid ha3
  have hn : ∀ k, w.heap.size ≤ k → k ∉ [t, m, c, y] := fun k hk hm => by have := hlt k hm; omega
  have HN := Lib.hid hn
  clear h hlt ha3 hn
  by_cases hf : faultD d.dead line d.lines = 0
  · obtain ⟨_, hl0, hl1⟩ := fault_ok hf
    have hl2 : line ≤ 4194304 := by unfold Dv.lines at hl1; omega
    rw [hf] at CF
    by_cases ha : d.armed = 1
    · rw [flush_cut hf ha]
      clear hf hl1
      go_enter Try.func15, Try.ntmps15
      go_upto_region 1 with fail
      go_quiet ((first | (go_at_call 48; exact Calls.quiet_of_same (CW.out _ (below_drewN HB.out _))) | (go_at_call 47; exact Calls.quiet_of_same (CF.out _ (below_drewN HB.out _)))))
      go_wp2_with (go_at_call 49; refine (guarded_cut50 (H.out.below (below_drewN HB.out _)) ha _ _).mono ?_; rintro e w4 ⟨rfl, hD4, hk4⟩; have HD4 := Lib.hid hD4; have HK4 := Lib.hid ((Kept.of_below (below_drewN HB.out _)).trans hk4); clear hD4 hk4)
      go_ret
      exact ⟨rfl, HD4.out, HK4.out⟩
    · rw [flush_go hf ha]
      clear hf hl1
      go_enter Try.func15, Try.ntmps15
      go_upto_region 1 with fail
      go_quiet ((first | (go_at_call 48; exact Calls.quiet_of_same (CW.out _ (below_drewN HB.out _))) | (go_at_call 47; exact Calls.quiet_of_same (CF.out _ (below_drewN HB.out _)))))
      go_wp2_with (go_at_call 49; refine (guarded_go50 (T' := T) (d' := d.tick.sends (lineN d line 8)) (H.out.below (below_drewN HB.out _)) ha he _ _ ?c1).mono ?_; rotate_left; rintro e w4 ⟨rfl, hD4, hk4⟩; have HD4 := Lib.hid hD4; have HK4 := Lib.hid ((Kept.of_below (below_drewN HB.out _)).trans hk4); clear hD4 hk4)
      case c1 =>
        intro w1 hD1 hk1
        exact flush1_any hD1 hl0 hl2 _ _ ((hk1.cell (by simp <;> omega) (HN.out _ (by simp <;> omega))).trans (by go_simp)) ((hk1.cell (by simp <;> omega) (HN.out _ (by simp <;> omega))).trans (by go_simp)) (HN.out _ (by omega)) (Nat.lt_of_lt_of_le (by simp <;> omega) hk1.size)
      go_ret
      exact ⟨rfl, HD4.out, HK4.out⟩
  · rw [flush_bad hf]
    have hfb : (faultD d.dead line d.lines != 0) = true := by simp [hf]
    clear hf
    generalize faultD d.dead line d.lines = f at *
    go_enter Try.func15, Try.ntmps15
    go_upto_region 1 with fail
    go_quiet ((first | (go_at_call 48; exact Calls.quiet_of_same (CW.out _ (below_drewN HB.out _))) | (go_at_call 47; exact Calls.quiet_of_same (CF.out _ (below_drewN HB.out _)))))
    go_wp2
    go_ret
    exact ⟨rfl, H.out.below (below_drewN HB.out _), Kept.of_below (below_drewN HB.out _)⟩
end
end Go.Proofs.Ytdnoniolpplgiaa
