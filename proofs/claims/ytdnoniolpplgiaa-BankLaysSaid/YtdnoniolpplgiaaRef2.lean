/- The document's device: its writing methods: contracts. -/
import Derived.Test.YtdnoniolpplgiaaRef
namespace Go.Proofs.Ytdnoniolpplgiaa
open Go.RowKit Go.Maps Go.Sort Go.Shelf

/-- The first of them turned. -/
def midG (g : Nat → Wd → Wd) (ws : List Wd) (j : Nat) : List Wd := ws.mapIdx (fun i y => if i < j then g i y else y)
theorem midG_len (g : Nat → Wd → Wd) (ws : List Wd) (j : Nat) : (midG g ws j).length = ws.length := by unfold midG; rw [List.length_mapIdx]
theorem midG_at (g : Nat → Wd → Wd) (ws : List Wd) (j : Nat) : (midG g ws j)[j]? = ws[j]? := by
  unfold midG
  rw [List.getElem?_mapIdx]
  cases ws[j]? <;> simp
theorem midG_zero (g : Nat → Wd → Wd) (ws : List Wd) : midG g ws 0 = ws := by
  apply List.ext_getElem?
  intro i
  unfold midG
  rw [List.getElem?_mapIdx]
  cases ws[i]? <;> simp
theorem midG_end (g : Nat → Wd → Wd) (ws : List Wd) : midG g ws ws.length = ws.mapIdx g := by
  apply List.ext_getElem?
  intro i
  unfold midG
  rw [List.getElem?_mapIdx, List.getElem?_mapIdx]
  by_cases hi : i < ws.length
  · rw [List.getElem?_eq_getElem hi]; simp [hi]
  · rw [List.getElem?_eq_none (by omega)]; rfl
theorem midG_succ {g : Nat → Wd → Wd} {ws : List Wd} {j : Nat} {y : Wd} (h : ws[j]? = some y) : midG g ws (j + 1) = (midG g ws j).set j (g j y) := by
  apply List.ext_getElem?
  intro i
  have hj := (List.getElem?_eq_some_iff.1 h).1
  rw [List.getElem?_set]
  unfold midG
  rw [List.getElem?_mapIdx, List.getElem?_mapIdx, List.length_mapIdx]
  by_cases e : j = i
  · subst e; rw [h, if_pos rfl, if_pos hj]; simp
  · rw [if_neg e]
    by_cases hi : i < ws.length
    · rw [List.getElem?_eq_getElem hi]
      simp only [Option.map_some, Option.some.injEq]
      by_cases hij : i < j
      · rw [if_pos hij, if_pos (by omega)]
      · rw [if_neg hij, if_neg (by omega)]
    · rw [List.getElem?_eq_none (by omega)]; rfl
theorem midG_same {g : Nat → Wd → Wd} {ws : List Wd} {j : Nat} {y : Wd} (h : ws[j]? = some y) (hg : g j y = y) : midG g ws (j + 1) = midG g ws j := by
  rw [midG_succ h, hg]
  apply List.ext_getElem?
  intro i
  rw [List.getElem?_set]
  by_cases e : j = i
  · subst e
    have hj := (List.getElem?_eq_some_iff.1 h).1
    rw [if_pos rfl, midG_len, if_pos hj, midG_at, h]
  · rw [if_neg e]

/-- What is sent of a word. -/
def Wd.send (line : Int) (y : Wd) : Wd := if y.at_ / 8 = line ∧ y.dirty = true then { y with way := true, sent := y.holds } else y
section
variable {w : World} {s cap : Nat} {X : Option Nat} {x : Rf}
/-- A word is stored. -/
def wdPut (w : World) (b o : Nat) (y : Wd) : World :=
  (((((w.setCell ⟨b, o, none⟩ (.int .i64 y.at_)).setCell ⟨b, o + 1, none⟩ (.int .u64 y.stays)).setCell ⟨b, o + 2, none⟩ (.int .u64 y.holds)).setCell ⟨b, o + 3, none⟩ (.bool y.dirty)).setCell ⟨b, o + 4, none⟩ (.bool y.way)).setCell ⟨b, o + 5, none⟩ (.int .u64 y.sent)
theorem putW_grown (w : World) (b o : Nat) (y : Wd) : w.grownBy (wdPut w b o y) (some b) := by
  unfold wdPut
  have g := fun (w : World) (o : Nat) (v : Value) => Lib.grownBy_setCell w b o v
  have t := fun {a w w' : World} (h : a.grownBy w (some b)) (k : w.grownBy w' (some b)) => grown_trans h k
  exact t (t (t (t (t (g _ _ _) (g _ _ _)) (g _ _ _)) (g _ _ _)) (g _ _ _)) (g _ _ _)
theorem putW_frozen (w : World) (b o : Nat) (y : Wd) (a : Addr) : (wdPut w b o y).frozen? a = w.frozen? a := by
  unfold wdPut
  simp only [World.frozen?_setCell]
theorem putW_far {w : World} {b o k : Nat} {y : Wd} (h : k < o ∨ o + 5 < k) : (wdPut w b o y).cell? ⟨b, k, none⟩ = w.cell? ⟨b, k, none⟩ := by
  unfold wdPut
  have e : ∀ (w : World) (q : Nat) (v : Value), q ≤ 5 → (w.setCell ⟨b, o + q, none⟩ v).cell? ⟨b, k, none⟩ = w.cell? ⟨b, k, none⟩ := fun w q v hq => World.cell?_setCell_other _ _ _ _ (by intro e; cases e; omega)
  rw [e _ 5 _ (by omega), e _ 4 _ (by omega), e _ 3 _ (by omega), e _ 2 _ (by omega), e _ 1 _ (by omega)]
  exact e w 0 _ (by omega)
theorem putW_at {w : World} {b o : Nat} {x y : Wd} (h : WdAt w b o x) : WdAt (wdPut w b o y) b o y := by
  obtain ⟨f0, f1, f2, f3, f4, f5⟩ := h
  unfold WdAt wdPut
  refine ⟨?_, ?_, ?_, ?_, ?_, ?_⟩ <;> go_simp
theorem RefIs.putW {b k : Nat} (h : RefIs w s (some b) cap x) (hk : k < x.ws.length) (y : Wd) : RefIs (wdPut w b (k * 6) y) s (some b) cap { x with ws := x.ws.set k y } ∧ w.grownBy (wdPut w b (k * 6) y) (some b) := by
  have hg := putW_grown w b (k * 6) y
  obtain ⟨h1, h2, h3, h4⟩ := h.ws
  have hs := hg.block s h.sl (by simpa using Ne.symm h2)
  have e : ∀ o, (wdPut w b (k * 6) y).cell? ⟨s, o, none⟩ = w.cell? ⟨s, o, none⟩ := fun o => World.cell?_of_block hs
  refine ⟨⟨(e 0).trans h.c0, ?_, (e 2).trans h.c2, (e 3).trans h.c3, (e 4).trans h.c4, fun o => (World.frozen?_of_block (a := ⟨s, o, none⟩) hs).trans (h.fr o), Nat.lt_of_lt_of_le h.sl hg.size, ⟨Nat.lt_of_lt_of_le h1 hg.size, h2, fun o => by rw [putW_frozen]; exact h3 o, fun i hi => ?_⟩, ?_, ?_, h.nb, h.ab, h.eb⟩, hg⟩
  · rw [e 1, h.c1]; simp only [List.length_set]
  · have hi2 : i < x.ws.length := by
      have hi3 : i < (x.ws.set k y).length := hi
      rwa [List.length_set] at hi3
    by_cases hik : i = k
    · subst hik
      simp only [List.getElem_set_self]
      exact putW_at (h4 i hi2)
    · simp only [List.getElem_set_ne (Ne.symm hik)]
      obtain ⟨f0, f1, f2, f3, f4, f5⟩ := h4 i hi2
      exact ⟨(putW_far (by omega)).trans f0, (putW_far (by omega)).trans f1, (putW_far (by omega)).trans f2, (putW_far (by omega)).trans f3, (putW_far (by omega)).trans f4, (putW_far (by omega)).trans f5⟩
  · simp only [List.length_set]; exact h.cap
  · simp only [List.length_set]; exact h.few
/-- A round's store. -/
theorem RefIs.step {g : Nat → Wd → Wd} {x0 : Rf} {ws : List Wd} {j b : Nat} {y : Wd} (h : RefIs w s (some b) cap { x0 with ws := midG g ws j }) (hy : ws[j]? = some y) (z : Wd) (hz : g j y = z) (o : Obj) : RefIs ((wdPut w b (j * 6) z).alloc o).drew s (some b) cap { x0 with ws := midG g ws (j + 1) } ∧ Kept (refB s (some b)) w ((wdPut w b (j * 6) z).alloc o).drew := by
  have hj := (List.getElem?_eq_some_iff.1 hy).1
  obtain ⟨h1, h2⟩ := h.putW (k := j) (by simp only [midG_len]; exact hj) z
  have hb := ((Below.refl (wdPut w b (j * 6) z).heap.size (wdPut w b (j * 6) z)).alloc (Nat.le_refl _) o).drew
  rw [midG_succ hy, hz]
  exact ⟨h1.below hb, (Kept.of_grown h2 (by simp [refB])).trans (Kept.of_below hb)⟩
set_option maxRecDepth 100000 in
set_option maxHeartbeats 4000000 in
theorem rflush_try (h : RefIs w s X cap x) (line : Int) (hW : ∀ y ∈ x.ws, 0 ≤ y.at_ ∧ y.at_ < 33554432) (hd : x.dead = false) (ha : x.armed ≠ 1) (he : x.events < 900000000) (h0 : 0 ≤ line) (h1 : line < x.lines) : Calls Try.prog 58 #[.pointer (some ⟨s, 0, none⟩), .int .i64 line] w fun e w' => e = .returned (.int .i64 0) ∧ RefIs w' s X cap { x.tick with ws := x.ws.mapIdx (fun _ => Wd.send line) } ∧ Kept (refB s X) w w' := by
  have H := Lib.hid h
  have HW := Lib.hid hW
  have hc3 := h.c3
  have hfew := h.few
  have hlt := h.lt
  have HLT := Lib.hid hlt
  have CL := Lib.hid (rlines_any h)
  rw [hd] at hc3
  clear h hlt hW
  go_enter Try.func58, Try.ntmps58
  go_wp2_with (first
    | (go_at_call 84; refine (CL.out).mono ?_; rintro e w' ⟨rfl, hw⟩; rw [hw]; clear hw w')
    | (go_at_call 85; refine (revent_go H.out ha he).mono ?_; rintro e w2 ⟨rfl, hD, hk⟩; have HD := Lib.hid hD; have HK := Lib.hid hk; have hc1 := hD.c1; unfold slV at hc1; clear hD hk))
  rw [show x.tick.ws = x.ws from rfl] at hc1
  generalize hA : Option.map (fun b => (⟨b, 0, none⟩ : Addr)) X = A at *
  have HA := Lib.hid hA
  clear hA
  go_loopw [26] (fun k wr => ∃ j : Nat, j ≤ x.ws.length ∧ k = .int .i64 j ∧ RefIs wr s X cap { x.tick with ws := midG (fun _ => Wd.send line) x.ws j } ∧ Kept (refB s X) w2 wr) (fun k _ => x.ws.length - (intOf k).toNat)
  case atStart => exact ⟨0, Nat.zero_le _, rfl, by rw [midG_zero]; exact HD.out, Kept.refl _ _⟩
  case round =>
    obtain ⟨j, hj, rfl, hD, hk⟩ := hrel
    by_cases hlt : j < x.ws.length
    · obtain ⟨b, rfl, hbl, hbn, hfr, y, hy, f0, f1, f2, f3, f4, f5⟩ := hD.at (i := j) (by simp only [midG_len]; exact hlt)
      have hA : some (⟨b, 0, none⟩ : Addr) = A := HA.out
      subst hA
      have hsl := hD.sl
      have hc1 := hD.c1
      simp only [slV, Option.map_some, midG_len] at hc1
      have hy : (midG (fun _ => Wd.send line) x.ws j)[j]? = some y := hy
      rw [midG_at] at hy
      obtain ⟨ha0, ha1⟩ := HW.out y (List.mem_of_getElem? hy)
      have HX := Lib.hid hy
      have HDD := Lib.hid hD
      clear hy hD
      by_cases hc : y.at_ / 8 = line ∧ y.dirty = true
      · have hP := HDD.out.step HX.out ⟨y.at_, y.stays, y.holds, true, true, y.holds⟩ (by show Wd.send line y = _; unfold Wd.send; rw [if_pos hc, hc.2]) (.cells #[.int .i64 y.at_, .int .u64 y.stays, .int .u64 y.holds, .bool true, .bool true, .int .u64 y.holds] 94)
        unfold wdPut at hP
        have HP := Lib.hid hP
        obtain ⟨hc1', hc2⟩ := hc
        clear hP
        have hcb : (y.at_ / 8 == line) = true := by simp [hc1']
        rw [hc2] at f3
        clear hc1' hc2
        go_upto_region 12 with fail
        go_region
        go_wp2
        go_roundw
        case rel => exact ⟨j + 1, by omega, by go_num, HP.out.1, hk.trans HP.out.2⟩
        case measure => simp [intOf]; omega
      · have hP := midG_same (g := fun _ => Wd.send line) HX.out (by show Wd.send line y = y; unfold Wd.send; rw [if_neg hc])
        have HP := Lib.hid hP
        have hba := fun o => (Below.refl wr.heap.size wr).alloc (Nat.le_refl _) o
        have HR := Lib.hid (fun o => HDD.out.below (hba o))
        have HK := Lib.hid (fun o => hk.trans (Kept.of_below (hba o)))
        clear hP hba
        by_cases hcl : y.at_ / 8 = line
        · have hcb : (y.at_ / 8 == line) = true := by simp [hcl]
          have hdy : y.dirty = false := by
            cases e : y.dirty with
            | false => rfl
            | true => exact absurd ⟨hcl, e⟩ hc
          rw [hdy] at f3
          clear hcl hc hdy
          go_wp2
          go_roundw
          case rel => exact ⟨j + 1, by omega, by go_num, by rw [HP.out]; exact HR.out _, HK.out _⟩
          case measure => simp [intOf]; omega
        · have hcb : (y.at_ / 8 == line) = false := by simp [hcl]
          clear hcl hc
          go_wp2
          go_roundw
          case rel => exact ⟨j + 1, by omega, by go_num, by rw [HP.out]; exact HR.out _, HK.out _⟩
          case measure => simp [intOf]; omega
    · obtain rfl : j = x.ws.length := by omega
      have hD := hD
      rw [midG_end] at hD
      have HF := Lib.hid hD
      have HFK := Lib.hid (HK.out.trans hk)
      clear hD hk
      go_wp2
      go_ret
      exact ⟨rfl, HF.out, HFK.out⟩
end
end Go.Proofs.Ytdnoniolpplgiaa
