/- The document's device: Store, Flush, Fence, Evict, whole: contracts. -/
import Derived.Test.YtdnoniolpplgiaaPlace
namespace Go.Proofs.Ytdnoniolpplgiaa
open Go.RowKit Go.Maps Go.Sort Go.Shelf

/-- What a deed answers, and leaves. -/
def RSaid (s : Nat) (X : Option Nat) (r : Int × Rf) (w : World) (e : Ending) (w' : World) : Prop :=
  ∃ X' cap', e = .returned (.int .i64 r.1) ∧ RefIs w' s X' cap' r.2 ∧ Kept (refB s X) w w' ∧ ∀ q ∈ refB s X', q ∈ refB s X ∨ w.heap.size ≤ q

/-- A store into one word. -/
def Wd.store (v : Int) (y : Wd) : Wd := ({ y with dirty := true, holds := v } : Wd).clean
def Rf.put (x : Rf) (i v : Int) : Rf := { x with ws := (placeW x.ws i).modify (kOf x.ws i) (Wd.store v) }
def Rf.store (x : Rf) (i v : Int) : Int × Rf := if faultD x.dead i x.n ≠ 0 then (faultD x.dead i x.n, x) else if x.armed = 1 then (5, x.cut) else (0, x.tick.put i v)
def Rf.flush (x : Rf) (line : Int) : Int × Rf := if faultD x.dead line x.lines ≠ 0 then (faultD x.dead line x.lines, x) else if x.armed = 1 then (5, x.cut) else (0, { x.tick with ws := x.ws.mapIdx (fun _ => Wd.send line) })
def Rf.fence (x : Rf) : Int × Rf := if x.dead = true then (5, x) else if x.armed = 1 then (5, x.cut) else (0, x.fenced)
def Rf.evict (x : Rf) (line : Int) : Bool × Rf := if x.dead = true then (false, x) else (evB line x.ws, { x with ws := x.ws.mapIdx (fun _ => Wd.evict line) })

theorem placeW_at (ws : List Wd) (i : Int) : ∃ y, (placeW ws i)[kOf ws i]? = some y ∧ y.at_ = i := by
  have hk := kOf_le ws i
  unfold placeW
  by_cases h : (ws[kOf ws i]?).map Wd.at_ = some i
  · rw [if_pos h]
    cases hx : ws[kOf ws i]? with
    | none => rw [hx] at h; cases h
    | some y => rw [hx] at h; exact ⟨y, rfl, by simpa using h⟩
  · rw [if_neg h]
    refine ⟨Wd.zero i, ?_, rfl⟩
    have e : (ws.take (kOf ws i)).length = kOf ws i := by rw [List.length_take]; omega
    rw [List.getElem?_append_right (by omega), e, Nat.sub_self]
    rfl
theorem placeW_len (ws : List Wd) (i : Int) : (placeW ws i).length ≤ ws.length + 1 := by
  have hk := kOf_le ws i
  unfold placeW
  split
  · omega
  · rw [List.length_append, List.length_append, List.length_take, List.length_drop, List.length_singleton]; omega

section
variable {w : World} {s cap : Nat} {X : Option Nat} {x : Rf}
theorem RSaid.same (h : RefIs w s X cap x) {w' : World} (hb : Below w.heap.size w w') (k : Int) : RSaid s X (k, x) w (.returned (.int .i64 k)) w' :=
  ⟨X, cap, rfl, h.below hb, Kept.of_below hb, fun _ hq => .inl hq⟩
theorem RSaid.of_kept {w' : World} {r : Int × Rf} (h : RefIs w' s X cap r.2) (hk : Kept (refB s X) w w') : RSaid s X r w (.returned (.int .i64 r.1)) w' :=
  ⟨X, cap, rfl, h, hk, fun _ hq => .inl hq⟩

set_option maxRecDepth 100000 in
set_option maxHeartbeats 4000000 in
theorem rflush_any (h : RefIs w s X cap x) (line : Int) (hW : ∀ y ∈ x.ws, 0 ≤ y.at_ ∧ y.at_ < 33554432) (he : x.events < 900000000) : Calls Try.prog 58 #[.pointer (some ⟨s, 0, none⟩), .int .i64 line] w (RSaid s X (x.flush line) w) := by
  have H := Lib.hid h
  have hc3 := h.c3
  have CL := Lib.hid (rlines_any h)
  unfold Rf.flush
  cases hd : x.dead with
  | true =>
    rw [show faultD true line x.lines = 5 from rfl, if_pos (by omega)]
    rw [hd] at hc3
    have HS := Lib.hid (fun w' (hb : Below w.heap.size w w') => RSaid.same h hb 5)
    clear hd h CL
    go_enter Try.func58, Try.ntmps58
    go_wp2
    go_ret
    exact HS.out _ (Below.refl _ _)
  | false =>
    have hd' := hd
    rw [hd] at hc3
    have HS := Lib.hid (fun w' (hb : Below w.heap.size w w') => RSaid.same h hb 90)
    by_cases h0 : line < 0
    · rw [show faultD false line x.lines = 90 from by unfold faultD; rw [if_neg (by simp), if_pos (.inl h0)], if_pos (by omega)]
      clear hd h
      go_enter Try.func58, Try.ntmps58
      go_wp2_with (go_at_call 84; refine (CL.out).mono ?_; rintro e w' ⟨rfl, hw⟩; rw [hw]; clear hw w')
      go_ret
      exact HS.out _ (Below.refl _ _)
    · by_cases h1 : x.lines ≤ line
      · rw [show faultD false line x.lines = 90 from by unfold faultD; rw [if_neg (by simp), if_pos (.inr h1)], if_pos (by omega)]
        clear hd h
        go_enter Try.func58, Try.ntmps58
        go_wp2_with (go_at_call 84; refine (CL.out).mono ?_; rintro e w' ⟨rfl, hw⟩; rw [hw]; clear hw w')
        go_ret
        exact HS.out _ (Below.refl _ _)
      · rw [show faultD false line x.lines = 0 from by unfold faultD; rw [if_neg (by simp), if_neg (by omega)], if_neg (by omega)]
        by_cases ha : x.armed = 1
        · rw [if_pos ha]
          have CE := Lib.hid (revent_cut h ha)
          clear hd h ha
          go_enter Try.func58, Try.ntmps58
          go_wp2_with (first
            | (go_at_call 84; refine (CL.out).mono ?_; rintro e w' ⟨rfl, hw⟩; rw [hw]; clear hw w')
            | (go_at_call 85; refine (CE.out).mono ?_; rintro e w2 ⟨rfl, hD, hk⟩; have HF := Lib.hid (RSaid.of_kept (r := (5, x.cut)) hD hk); clear hD hk))
          go_ret
          exact HF.out
        · rw [if_neg ha]
          refine (rflush_try h line hW hd' ha he (by omega) (by omega)).mono ?_
          rintro e w' ⟨rfl, hD, hk⟩
          exact RSaid.of_kept (r := (0, _)) hD hk

set_option maxRecDepth 100000 in
set_option maxHeartbeats 4000000 in
theorem rfence_any (h : RefIs w s X cap x) (he : x.events < 900000000) : Calls Try.prog 59 #[.pointer (some ⟨s, 0, none⟩)] w (RSaid s X x.fence w) := by
  have H := Lib.hid h
  have hc3 := h.c3
  unfold Rf.fence
  cases hd : x.dead with
  | true =>
    rw [if_pos rfl]
    rw [hd] at hc3
    have HS := Lib.hid (fun w' (hb : Below w.heap.size w w') => RSaid.same h hb 5)
    clear hd h
    go_enter Try.func59, Try.ntmps59
    go_wp2
    go_ret
    exact HS.out _ (Below.refl _ _)
  | false =>
    have hd' := hd
    rw [hd] at hc3
    rw [if_neg (by simp)]
    by_cases ha : x.armed = 1
    · rw [if_pos ha]
      have CE := Lib.hid (revent_cut h ha)
      clear hd h ha
      go_enter Try.func59, Try.ntmps59
      go_wp2_with (go_at_call 85; refine (CE.out).mono ?_; rintro e w2 ⟨rfl, hD, hk⟩; have HF := Lib.hid (RSaid.of_kept (r := (5, x.cut)) hD hk); clear hD hk)
      go_ret
      exact HF.out
    · rw [if_neg ha]
      refine (rfence_go h hd' ha he).mono ?_
      rintro e w' ⟨rfl, hD, hk⟩
      exact RSaid.of_kept (r := (0, _)) hD hk

theorem revict_any (h : RefIs w s X cap x) (line : Int) (hW : ∀ y ∈ x.ws, 0 ≤ y.at_ ∧ y.at_ < 33554432) : Calls Try.prog 60 #[.pointer (some ⟨s, 0, none⟩), .int .i64 line] w fun e w' => e = .returned (.bool (x.evict line).1) ∧ RefIs w' s X cap (x.evict line).2 ∧ Kept (refB s X) w w' := by
  unfold Rf.evict
  by_cases hd : x.dead = true
  · rw [if_pos hd]
    refine (revict_dead h line hd).mono ?_
    rintro e w' ⟨rfl, hb⟩
    exact ⟨rfl, h.below hb, Kept.of_below hb⟩
  · rw [if_neg hd]
    exact revict_go h line hW (by simpa using hd)

/-- One word stored: the list. -/
theorem modify_set {ws : List Wd} {k : Nat} {y : Wd} (f : Wd → Wd) (h : ws[k]? = some y) : ws.modify k f = ws.set k (f y) := by
  apply List.ext_getElem?
  intro i
  rw [List.getElem?_modify, List.getElem?_set]
  have hk := (List.getElem?_eq_some_iff.1 h).1
  by_cases e : k = i
  · subst e; rw [h]; simp [hk]
  · simp [e]

set_option maxRecDepth 100000 in
set_option maxHeartbeats 8000000 in
theorem rstore_go (h : RefIs w s X cap x) (i v : Int) (hfew : x.ws.length < 9000) (hd : x.dead = false) (ha : x.armed ≠ 1) (he : x.events < 900000000) (h0 : 0 ≤ i) (h1 : i < x.n) : Calls Try.prog 62 #[.pointer (some ⟨s, 0, none⟩), .int .i64 i, .int .u64 v] w (RSaid s X (0, x.tick.put i v) w) := by
  have H := Lib.hid h
  have hc0 := h.c0
  have hc3 := h.c3
  rw [hd] at hc3
  have hP : ∃ (kk : Nat) (pw : List Wd) (y : Wd), pw[kk]? = some y ∧ pw.length ≤ x.ws.length + 1 ∧ (x.tick.put i v) = { x.tick with ws := pw.set kk (Wd.store v y) } ∧ ∀ w2, RefIs w2 s X cap x.tick → Calls Try.prog 87 #[.pointer (some ⟨s, 0, none⟩), .int .i64 i] w2 fun e w' => ∃ X' cap', e = .returned (.int .i64 (kk : Nat)) ∧ RefIs w' s X' cap' { x.tick with ws := pw } ∧ Kept (refB s X) w2 w' ∧ ∀ q ∈ refB s X', q ∈ refB s X ∨ w2.heap.size ≤ q := by
    obtain ⟨y, hy, _⟩ := placeW_at x.ws i
    refine ⟨kOf x.ws i, placeW x.ws i, y, hy, placeW_len x.ws i, ?_, fun w2 hD => place_any hD i hfew⟩
    unfold Rf.put
    rw [← modify_set _ hy]; rfl
  obtain ⟨kk, pw, y, hy, hlen, hput, hcall⟩ := hP
  rw [hput]
  have HY := Lib.hid hy
  have CP := Lib.hid hcall
  have hkl := (List.getElem?_eq_some_iff.1 hy).1
  have CC := fun w => clean_any w ⟨y.at_, y.stays, v, true, y.way, y.sent⟩
  have hz : Wd.store v y = (⟨y.at_, y.stays, v, true, y.way, y.sent⟩ : Wd).clean := rfl
  rw [hz]
  generalize hzz : (⟨y.at_, y.stays, v, true, y.way, y.sent⟩ : Wd).clean = z at *
  obtain ⟨z0, z1, z2, z3, z4, z5⟩ := z
  unfold wdV at CC
  dsimp only at CC
  have HC := Lib.hid CC
  clear h hy hcall hput hz hzz CC
  go_enter Try.func62, Try.ntmps62
  go_upto_region 10 with (first
    | (go_at_call 85; refine (revent_go H.out ha he).mono ?_; rintro e w2 ⟨rfl, hD, hk⟩; have HD := Lib.hid hD; have HK := Lib.hid hk; clear hD hk)
    | (go_at_call 87; refine (CP.out w2 HD.out).mono ?_; rintro e w3 ⟨X3, cap3, rfl, hD3, hk3, hq3⟩; have HQ3 := Lib.hid hq3; have HD3 := Lib.hid hD3; have HK3 := Lib.hid (HK.out.trans hk3); obtain ⟨b, rfl, hbl, hbn, hfr, y', hy', f0, f1, f2, f3, f4, f5⟩ := (hD3.at (i := kk) hkl); have hyy : y = y' := Option.some.inj (HY.out.symm.trans hy'); subst hyy; have hsl := hD3.sl; have hc1 := hD3.c1; simp only [slV, Option.map_some] at hc1; clear hD3 hk3 hq3 hy'))
  have hba : Below w3.heap.size w3 (w3.alloc (.cells #[.int .i64 y.at_, .int .u64 y.stays, .int .u64 v, .bool true, .bool y.way, .int .u64 y.sent] 94)) := (Below.refl _ _).alloc (Nat.le_refl _) _
  have hbw : ¬ b = w3.heap.size := by omega
  go_region_held3 (fun w' => w'.cell? ⟨w3.heap.size, 0, none⟩ = some (.int .i64 y.at_) ∧ w'.cell? ⟨w3.heap.size, 1, none⟩ = some (.int .u64 y.stays) ∧ w'.cell? ⟨w3.heap.size, 2, none⟩ = some (.int .u64 v) ∧ w'.cell? ⟨w3.heap.size, 3, none⟩ = some (.bool true) ∧ w'.cell? ⟨w3.heap.size, 4, none⟩ = some (.bool y.way) ∧ w'.cell? ⟨w3.heap.size, 5, none⟩ = some (.int .u64 y.sent) ∧ w'.cell? ⟨s, 1, none⟩ = some (.slice (some ⟨b, 0, none⟩) pw.length cap3))
    (first | go_keep | (refine ⟨?_, ?_, ?_, ?_, ?_, ?_, ?_⟩ <;> (rw [hb5.cell (by simp <;> omega)]; go_keep)))
    ((go_at_call 86; refine (HC.out _).mono ?_; rintro e w5 ⟨rfl, hb5⟩; have hbX : Below w3.heap.size w3 w5 := (hba.drew).trans (hb5.mono (by simp)); have F0 := (hbX.cell (p := ⟨b, kk * 6, none⟩) hbl).trans f0; have F1 := (hbX.cell (p := ⟨b, kk * 6 + 1, none⟩) hbl).trans f1; have F2 := (hbX.cell (p := ⟨b, kk * 6 + 2, none⟩) hbl).trans f2; have F3 := (hbX.cell (p := ⟨b, kk * 6 + 3, none⟩) hbl).trans f3; have F4 := (hbX.cell (p := ⟨b, kk * 6 + 4, none⟩) hbl).trans f4; have F5 := (hbX.cell (p := ⟨b, kk * 6 + 5, none⟩) hbl).trans f5; have FF : ∀ o, w5.frozen? ⟨b, o, none⟩ = false := fun o => (frozen_below hbX (a := ⟨b, o, none⟩) hbl).trans (hfr o)))
  have hP := ((HD3.out.below hbX).putW (k := kk) hkl ⟨z0, z1, z2, z3, z4, z5⟩)
  unfold wdPut at hP
  have HP := Lib.hid hP
  clear hP
  have HKF := Lib.hid (HK3.out.trans' ((Kept.of_below (S := refB s (some b)) hbX).trans (Kept.of_grown HP.out.2 (by simp [refB]))) (fun q hq => by
    rcases HQ3.out q hq with h | h
    · exact .inl h
    · exact .inr (Nat.le_trans HK.out.size h)))
  go_wp2
  go_ret
  exact ⟨some b, cap3, rfl, HP.out.1, HKF.out, fun q hq => by
    rcases HQ3.out q hq with h | h
    · exact .inl h
    · exact .inr (Nat.le_trans HK.out.size h)⟩

set_option maxRecDepth 100000 in
set_option maxHeartbeats 4000000 in
theorem rstore_any (h : RefIs w s X cap x) (i v : Int) (hfew : x.ws.length < 9000) (he : x.events < 900000000) : Calls Try.prog 62 #[.pointer (some ⟨s, 0, none⟩), .int .i64 i, .int .u64 v] w (RSaid s X (x.store i v) w) := by
  have H := Lib.hid h
  have hc0 := h.c0
  have hc3 := h.c3
  unfold Rf.store
  cases hd : x.dead with
  | true =>
    rw [show faultD true i x.n = 5 from rfl, if_pos (by omega)]
    rw [hd] at hc3
    have HS := Lib.hid (fun w' (hb : Below w.heap.size w w') => RSaid.same h hb 5)
    clear hd h
    go_enter Try.func62, Try.ntmps62
    go_wp2
    go_ret
    exact HS.out _ (Below.refl _ _)
  | false =>
    have hd' := hd
    rw [hd] at hc3
    have HS := Lib.hid (fun w' (hb : Below w.heap.size w w') => RSaid.same h hb 90)
    by_cases h0 : i < 0
    · rw [show faultD false i x.n = 90 from by unfold faultD; rw [if_neg (by simp), if_pos (.inl h0)], if_pos (by omega)]
      clear hd h
      go_enter Try.func62, Try.ntmps62
      go_wp2
      go_ret
      exact HS.out _ (Below.refl _ _)
    · by_cases h1 : x.n ≤ i
      · rw [show faultD false i x.n = 90 from by unfold faultD; rw [if_neg (by simp), if_pos (.inr h1)], if_pos (by omega)]
        clear hd h
        go_enter Try.func62, Try.ntmps62
        go_wp2
        go_ret
        exact HS.out _ (Below.refl _ _)
      · rw [show faultD false i x.n = 0 from by unfold faultD; rw [if_neg (by simp), if_neg (by omega)], if_neg (by omega)]
        by_cases ha : x.armed = 1
        · rw [if_pos ha]
          have CE := Lib.hid (revent_cut h ha)
          clear hd h ha
          go_enter Try.func62, Try.ntmps62
          go_wp2_with (go_at_call 85; refine (CE.out).mono ?_; rintro e w2 ⟨rfl, hD, hk⟩; have HF := Lib.hid (RSaid.of_kept (r := (5, x.cut)) hD hk); clear hD hk)
          go_ret
          exact HF.out
        · rw [if_neg ha]
          exact rstore_go h i v hfew hd' ha he (by omega) (by omega)
end
end Go.Proofs.Ytdnoniolpplgiaa
