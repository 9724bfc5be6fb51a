/- The document's device: Fence, Evict: contracts. -/
import Derived.Test.YtdnoniolpplgiaaRef2
namespace Go.Proofs.Ytdnoniolpplgiaa
open Go.RowKit Go.Maps Go.Sort Go.Shelf

/-- What a fence leaves of a word. -/
def Wd.fence (y : Wd) : Wd := if y.way = true then ({ y with stays := y.sent, way := false, sent := 0 } : Wd).clean else y
section
variable {w : World} {s cap : Nat} {X : Option Nat} {x : Rf}
/-- A round's store, in a later world. -/
theorem RefIs.step2 {g : Nat → Wd → Wd} {x0 : Rf} {ws : List Wd} {j b : Nat} {y : Wd} (h : RefIs w s (some b) cap { x0 with ws := midG g ws j }) (hy : ws[j]? = some y) {z : Wd} (hz : g j y = z) {w2 : World} (hb : Below w.heap.size w w2) : RefIs (wdPut w2 b (j * 6) z) s (some b) cap { x0 with ws := midG g ws (j + 1) } ∧ Kept (refB s (some b)) w (wdPut w2 b (j * 6) z) := by
  have hj := (List.getElem?_eq_some_iff.1 hy).1
  obtain ⟨h1, h2⟩ := (h.below hb).putW (k := j) (by simp only [midG_len]; exact hj) z
  rw [midG_succ hy, hz]
  exact ⟨h1, (Kept.of_below hb).trans (Kept.of_grown h2 (by simp [refB]))⟩

/-- What Fence does, where nothing fails. -/
def Rf.fenced (x : Rf) : Rf := { x.tick with ws := x.ws.mapIdx (fun _ => Wd.fence) }
set_option maxRecDepth 100000 in
set_option maxHeartbeats 4000000 in
theorem rfence_go (h : RefIs w s X cap x) (hd : x.dead = false) (ha : x.armed ≠ 1) (he : x.events < 900000000) : Calls Try.prog 59 #[.pointer (some ⟨s, 0, none⟩)] w fun e w' => e = .returned (.int .i64 0) ∧ RefIs w' s X cap x.fenced ∧ Kept (refB s X) w w' := by
  have H := Lib.hid h
  have hc3 := h.c3
  have hfew := h.few
  rw [hd] at hc3
  unfold Rf.fenced
  clear h
  go_enter Try.func59, Try.ntmps59
  go_wp2_with (first
    | (go_at_call 85; refine (revent_go H.out ha he).mono ?_; rintro e w2 ⟨rfl, hD, hk⟩; have HD := Lib.hid hD; have HK := Lib.hid hk; have hc1 := hD.c1; unfold slV at hc1; clear hD hk))
  rw [show x.tick.ws = x.ws from rfl] at hc1
  generalize hA : Option.map (fun b => (⟨b, 0, none⟩ : Addr)) X = A at *
  have HA := Lib.hid hA
  clear hA
  go_loopw [16] (fun k wr => ∃ j : Nat, j ≤ x.ws.length ∧ k = .int .i64 j ∧ RefIs wr s X cap { x.tick with ws := midG (fun _ => Wd.fence) x.ws j } ∧ Kept (refB s X) w2 wr) (fun k _ => x.ws.length - (intOf k).toNat)
  case atStart => exact ⟨0, Nat.zero_le _, rfl, by rw [midG_zero]; exact HD.out, Kept.refl _ _⟩
  case round =>
    obtain ⟨j, hj, rfl, hD, hk⟩ := hrel
    by_cases hlt : j < x.ws.length
    ·
      obtain ⟨b, rfl, hbl, hbn, hfr, y, hy, f0, f1, f2, f3, f4, f5⟩ := hD.at (i := j) (by simp only [midG_len]; exact hlt)
      have hA : some (⟨b, 0, none⟩ : Addr) = A := HA.out
      subst hA
      have hsl := hD.sl
      have hc1 := hD.c1
      simp only [slV, Option.map_some, midG_len] at hc1
      have hy : (midG (fun _ => Wd.fence) x.ws j)[j]? = some y := hy
      rw [midG_at] at hy
      have HX := Lib.hid hy
      have HDD := Lib.hid hD
      clear hy hD
      cases hw : y.way with
      | true =>
        rw [hw] at f4
        have hz : Wd.fence y = (⟨y.at_, y.sent, y.holds, y.dirty, false, 0⟩ : Wd).clean := by unfold Wd.fence; rw [if_pos hw]
        have CC := fun w => clean_any w ⟨y.at_, y.sent, y.holds, y.dirty, false, 0⟩
        generalize hzz : (⟨y.at_, y.sent, y.holds, y.dirty, false, 0⟩ : Wd).clean = z at *
        obtain ⟨z0, z1, z2, z3, z4, z5⟩ := z
        unfold wdV at CC
        dsimp only at CC
        have HZ := Lib.hid hz
        have HC := Lib.hid CC
        clear hz hzz CC hw
        have hbw : ¬ b = wr.heap.size := by omega
        go_upto_region 10 with fail
        have hba : Below wr.heap.size wr (wr.alloc (.cells #[.int .i64 y.at_, .int .u64 y.sent, .int .u64 y.holds, .bool y.dirty, .bool false, .int .u64 0] 94)) := (Below.refl _ _).alloc (Nat.le_refl _) _
        go_region_held3 (fun w' => w'.cell? ⟨wr.heap.size, 0, none⟩ = some (.int .i64 y.at_) ∧ w'.cell? ⟨wr.heap.size, 1, none⟩ = some (.int .u64 y.sent) ∧ w'.cell? ⟨wr.heap.size, 2, none⟩ = some (.int .u64 y.holds) ∧ w'.cell? ⟨wr.heap.size, 3, none⟩ = some (.bool y.dirty) ∧ w'.cell? ⟨wr.heap.size, 4, none⟩ = some (.bool false) ∧ w'.cell? ⟨wr.heap.size, 5, none⟩ = some (.int .u64 0) ∧ w'.cell? ⟨s, 1, none⟩ = some (.slice (some ⟨b, 0, none⟩) x.ws.length cap))
          (first | go_keep | (refine ⟨?_, ?_, ?_, ?_, ?_, ?_, ?_⟩ <;> (rw [hb5.cell (by simp <;> omega)]; go_keep)))
          ((go_at_call 86; refine (HC.out _).mono ?_; rintro e w5 ⟨rfl, hb5⟩; have hbX : Below wr.heap.size wr w5 := (hba.drew).trans (hb5.mono (by simp)); have F0 := (hbX.cell (p := ⟨b, j * 6, none⟩) hbl).trans f0; have F1 := (hbX.cell (p := ⟨b, j * 6 + 1, none⟩) hbl).trans f1; have F2 := (hbX.cell (p := ⟨b, j * 6 + 2, none⟩) hbl).trans f2; have F3 := (hbX.cell (p := ⟨b, j * 6 + 3, none⟩) hbl).trans f3; have F4 := (hbX.cell (p := ⟨b, j * 6 + 4, none⟩) hbl).trans f4; have F5 := (hbX.cell (p := ⟨b, j * 6 + 5, none⟩) hbl).trans f5; have FF : ∀ o, w5.frozen? ⟨b, o, none⟩ = false := fun o => (frozen_below hbX (a := ⟨b, o, none⟩) hbl).trans (hfr o)))
        have hP := HDD.out.step2 HX.out HZ.out hbX
        unfold wdPut at hP
        have HP := Lib.hid hP
        clear hP
        go_wp2
        go_roundw
        case rel => exact ⟨j + 1, by omega, by go_num, HP.out.1, hk.trans HP.out.2⟩
        case measure => simp [intOf]; omega
      | false =>
        rw [hw] at f4
        have hP := midG_same (g := fun _ => Wd.fence) HX.out (by show Wd.fence y = y; unfold Wd.fence; rw [if_neg (by simp [hw])])
        have HP := Lib.hid hP
        have hba := fun o => (Below.refl wr.heap.size wr).alloc (Nat.le_refl _) o
        have HR := Lib.hid (fun o => HDD.out.below (hba o))
        have HK := Lib.hid (fun o => hk.trans (Kept.of_below (hba o)))
        clear hP hba hw
        go_wp2
        go_roundw
        case rel => exact ⟨j + 1, by omega, by go_num, by rw [HP.out]; exact HR.out _, HK.out _⟩
        case measure => simp [intOf]; omega
    · obtain rfl : j = x.ws.length := by omega
      have hD := hD
      rw [midG_end] at hD
      have HF := Lib.hid hD
      have HFK := Lib.hid (HK.out.trans hk)
      clear hD hk
      go_wp2
      go_ret
      exact ⟨rfl, HF.out, HFK.out⟩

/-- What an eviction leaves of a word. -/
def Wd.evict (line : Int) (y : Wd) : Wd := if y.at_ / 8 = line ∧ y.dirty = true then ({ y with stays := y.holds, way := false, sent := 0 } : Wd).clean else y
def evB (line : Int) (ws : List Wd) : Bool := ws.any (fun y => y.at_ / 8 == line && y.dirty)
theorem evB_snoc (line : Int) (ws : List Wd) (y : Wd) : evB line (ws ++ [y]) = (evB line ws || (y.at_ / 8 == line && y.dirty)) := by unfold evB; rw [List.any_append]; simp
set_option maxRecDepth 100000 in
set_option maxHeartbeats 4000000 in
theorem revict_go (h : RefIs w s X cap x) (line : Int) (hW : ∀ y ∈ x.ws, 0 ≤ y.at_ ∧ y.at_ < 33554432) (hd : x.dead = false) : Calls Try.prog 60 #[.pointer (some ⟨s, 0, none⟩), .int .i64 line] w fun e w' => e = .returned (.bool (evB line x.ws)) ∧ RefIs w' s X cap { x with ws := x.ws.mapIdx (fun _ => Wd.evict line) } ∧ Kept (refB s X) w w' := by
  have H := Lib.hid h
  have HW := Lib.hid hW
  have hc1 := h.c1
  have hfew := h.few
  have HDE := Lib.hid hd
  unfold slV at hc1
  clear h hW hd
  generalize hA : Option.map (fun b => (⟨b, 0, none⟩ : Addr)) X = A at *
  have HA := Lib.hid hA
  clear hA
  go_enter Try.func60, Try.ntmps60
  go_wp2
  go_loopw [5, 13] (fun v k wr => ∃ j : Nat, j ≤ x.ws.length ∧ k = .int .i64 j ∧ v = .bool (evB line (x.ws.take j)) ∧ RefIs wr s X cap { x with ws := midG (fun _ => Wd.evict line) x.ws j } ∧ Kept (refB s X) w wr) (fun _ k _ => x.ws.length - (intOf k).toNat)
  case atStart => exact ⟨0, Nat.zero_le _, rfl, rfl, by rw [midG_zero]; exact H.out, Kept.refl _ _⟩
  case round =>
    obtain ⟨j, hj, rfl, rfl, hD, hk⟩ := hrel
    by_cases hlt : j < x.ws.length
    ·
      obtain ⟨b, rfl, hbl, hbn, hfr, y, hy, f0, f1, f2, f3, f4, f5⟩ := hD.at (i := j) (by simp only [midG_len]; exact hlt)
      have hA : some (⟨b, 0, none⟩ : Addr) = A := HA.out
      subst hA
      have hsl := hD.sl
      have hc1 := hD.c1
      simp only [slV, Option.map_some, midG_len] at hc1
      have hy : (midG (fun _ => Wd.evict line) x.ws j)[j]? = some y := hy
      rw [midG_at] at hy
      have hc3 : wr.cell? ⟨s, 3, none⟩ = some (.bool false) := by have := hD.c3; rw [show ({ x with ws := midG (fun _ => Wd.evict line) x.ws j } : Rf).dead = x.dead from rfl, HDE.out] at this; exact this
      obtain ⟨ha0, ha1⟩ := HW.out y (List.mem_of_getElem? hy)
      have HE := Lib.hid (show evB line (x.ws.take (j + 1)) = (evB line (x.ws.take j) || (y.at_ / 8 == line && y.dirty)) from by rw [take_snoc hy, evB_snoc])
      have HX := Lib.hid hy
      have HDD := Lib.hid hD
      clear hy hD
      generalize evB line (x.ws.take j) = ev at *
      by_cases hc : y.at_ / 8 = line ∧ y.dirty = true
      · have hz : Wd.evict line y = (⟨y.at_, y.holds, y.holds, true, false, 0⟩ : Wd).clean := by unfold Wd.evict; rw [if_pos hc, ← hc.2]
        obtain ⟨hc1', hc2⟩ := hc
        have hcb : (y.at_ / 8 == line) = true := by simp [hc1']
        have HE2 := Lib.hid (HE.out.trans (by rw [hcb, hc2]; simp : _ = true))
        rw [hc2] at f3
        clear HE
        have CC := fun w => clean_any w ⟨y.at_, y.holds, y.holds, true, false, 0⟩
        generalize hzz : (⟨y.at_, y.holds, y.holds, true, false, 0⟩ : Wd).clean = z at *
        obtain ⟨z0, z1, z2, z3, z4, z5⟩ := z
        unfold wdV at CC
        dsimp only at CC
        have HZ := Lib.hid hz
        have HC := Lib.hid CC
        clear hz hzz CC hc1' hc2
        have hbw : ¬ b = wr.heap.size := by omega
        go_upto_region 8 with fail
        have hba : Below wr.heap.size wr (wr.alloc (.cells #[.int .i64 y.at_, .int .u64 y.holds, .int .u64 y.holds, .bool true, .bool false, .int .u64 0] 94)) := (Below.refl _ _).alloc (Nat.le_refl _) _
        go_region_held3 (fun w' => w'.cell? ⟨wr.heap.size, 0, none⟩ = some (.int .i64 y.at_) ∧ w'.cell? ⟨wr.heap.size, 1, none⟩ = some (.int .u64 y.holds) ∧ w'.cell? ⟨wr.heap.size, 2, none⟩ = some (.int .u64 y.holds) ∧ w'.cell? ⟨wr.heap.size, 3, none⟩ = some (.bool true) ∧ w'.cell? ⟨wr.heap.size, 4, none⟩ = some (.bool false) ∧ w'.cell? ⟨wr.heap.size, 5, none⟩ = some (.int .u64 0) ∧ w'.cell? ⟨s, 1, none⟩ = some (.slice (some ⟨b, 0, none⟩) x.ws.length cap))
          (first | go_keep | (refine ⟨?_, ?_, ?_, ?_, ?_, ?_, ?_⟩ <;> (rw [hb5.cell (by simp <;> omega)]; go_keep)))
          ((go_at_call 86; refine (HC.out _).mono ?_; rintro e w5 ⟨rfl, hb5⟩; have hbX : Below wr.heap.size wr w5 := (hba.drew).trans (hb5.mono (by simp)); have F0 := (hbX.cell (p := ⟨b, j * 6, none⟩) hbl).trans f0; have F1 := (hbX.cell (p := ⟨b, j * 6 + 1, none⟩) hbl).trans f1; have F2 := (hbX.cell (p := ⟨b, j * 6 + 2, none⟩) hbl).trans f2; have F3 := (hbX.cell (p := ⟨b, j * 6 + 3, none⟩) hbl).trans f3; have F4 := (hbX.cell (p := ⟨b, j * 6 + 4, none⟩) hbl).trans f4; have F5 := (hbX.cell (p := ⟨b, j * 6 + 5, none⟩) hbl).trans f5; have FF : ∀ o, w5.frozen? ⟨b, o, none⟩ = false := fun o => (frozen_below hbX (a := ⟨b, o, none⟩) hbl).trans (hfr o)))
        have hP := HDD.out.step2 HX.out HZ.out hbX
        unfold wdPut at hP
        have HP := Lib.hid hP
        clear hP
        go_wp2
        go_roundw
        case rel => exact ⟨j + 1, by omega, by go_num, by rw [HE2.out], HP.out.1, hk.trans HP.out.2⟩
        case measure => simp [intOf]; omega
      · have hP := midG_same (g := fun _ => Wd.evict line) HX.out (by show Wd.evict line y = y; unfold Wd.evict; rw [if_neg hc])
        have HP := Lib.hid hP
        have hba := fun o => (Below.refl wr.heap.size wr).alloc (Nat.le_refl _) o
        have HR := Lib.hid (fun o => HDD.out.below (hba o))
        have HK := Lib.hid (fun o => hk.trans (Kept.of_below (hba o)))
        clear hP hba
        by_cases hcl : y.at_ / 8 = line
        · have hcb : (y.at_ / 8 == line) = true := by simp [hcl]
          have hdy : y.dirty = false := by
            cases e : y.dirty with
            | false => rfl
            | true => exact absurd ⟨hcl, e⟩ hc
          have HE2 := Lib.hid (HE.out.trans (by rw [hdy]; simp : _ = ev))
          rw [hdy] at f3
          clear hcl hc hdy HE
          go_wp2
          go_roundw
          case rel => exact ⟨j + 1, by omega, by go_num, by rw [HE2.out], by rw [HP.out]; exact HR.out _, HK.out _⟩
          case measure => simp [intOf]; omega
        · have hcb : (y.at_ / 8 == line) = false := by simp [hcl]
          have HE2 := Lib.hid (HE.out.trans (by rw [hcb]; simp : _ = ev))
          clear hcl hc HE
          go_wp2
          go_roundw
          case rel => exact ⟨j + 1, by omega, by go_num, by rw [HE2.out], by rw [HP.out]; exact HR.out _, HK.out _⟩
          case measure => simp [intOf]; omega
    · obtain rfl : j = x.ws.length := by omega
      have hD := hD
      rw [midG_end] at hD
      rw [List.take_length]
      have HF := Lib.hid hD
      have HFK := Lib.hid hk
      clear hD hk
      go_wp2
      go_ret
      exact ⟨rfl, HF.out, HFK.out⟩
set_option maxRecDepth 100000 in
set_option maxHeartbeats 4000000 in
theorem revict_dead (h : RefIs w s X cap x) (line : Int) (hd : x.dead = true) : Calls Try.prog 60 #[.pointer (some ⟨s, 0, none⟩), .int .i64 line] w fun e w' => e = .returned (.bool false) ∧ Below w.heap.size w w' := by
  have H := Lib.hid h
  have hc1 := h.c1
  have hfew := h.few
  have HDE := Lib.hid hd
  unfold slV at hc1
  clear h hd
  generalize hA : Option.map (fun b => (⟨b, 0, none⟩ : Addr)) X = A at *
  have HA := Lib.hid hA
  clear hA
  go_enter Try.func60, Try.ntmps60
  go_wp2
  go_loopw [5, 13] (fun v k wr => ∃ j : Nat, j ≤ x.ws.length ∧ k = .int .i64 j ∧ v = .bool false ∧ Below w.heap.size w wr) (fun _ k _ => x.ws.length - (intOf k).toNat)
  case atStart => exact ⟨0, Nat.zero_le _, rfl, rfl, Below.refl _ _⟩
  case round =>
    obtain ⟨j, hj, rfl, rfl, hb⟩ := hrel
    by_cases hlt : j < x.ws.length
    · have hD := H.out.below hb
      obtain ⟨b, rfl, hbl, hbn, hfr, y, hy, f0, f1, f2, f3, f4, f5⟩ := hD.at hlt
      have hA : some (⟨b, 0, none⟩ : Addr) = A := HA.out
      subst hA
      have hsl := hD.sl
      have hc3 := hD.c3
      rw [HDE.out] at hc3
      have hba := fun o => hb.alloc hb.size o
      clear hy hD
      go_wp2
      go_roundw
      case rel => exact ⟨j + 1, by omega, by go_num, rfl, hba _⟩
      case measure => simp [intOf]; omega
    · go_wp2
      go_ret
      exact ⟨rfl, hb⟩
end
end Go.Proofs.Ytdnoniolpplgiaa
