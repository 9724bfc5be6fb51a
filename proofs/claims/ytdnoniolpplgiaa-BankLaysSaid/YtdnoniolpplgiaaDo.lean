/- What is done to both devices: a contract. -/
import Derived.Test.YtdnoniolpplgiaaRStore
import Derived.Test.YtdnoniolpplgiaaArmed
namespace Go.Proofs.Ytdnoniolpplgiaa
open Go.RowKit Go.Maps Go.Sort Go.Shelf

/-- What a deed does to a device: what it answers (an eviction: 1 or 0), what it leaves. -/
def DoD (d : Dv) (k : De) (r : Int × Dv) : Prop :=
  if k.k = 1 then r = d.flush k.i
  else if k.k = 2 then ∃ ks, Ris ks ∧ (∀ q, q ∈ ks ↔ (d.way q).isSome = true) ∧ r = d.fenceR ks
  else if k.k = 3 then r = (if (d.evict k.i).1 = true then 1 else 0, (d.evict k.i).2)
  else if k.k = 4 then r = (1, { d with armed := max k.i 0 })
  else if k.k = 5 then ∃ ks, Ris ks ∧ (∀ q, q ∈ ks ↔ (d.cache q).isSome = true) ∧ r = (1, d.crash ks k.keep)
  else r = d.store k.i k.v
def doX (x : Rf) (k : De) : Int × Rf :=
  if k.k = 1 then x.flush k.i
  else if k.k = 2 then x.fence
  else if k.k = 3 then (if (x.evict k.i).1 = true then 1 else 0, (x.evict k.i).2)
  else if k.k = 4 then (1, { x with armed := max k.i 0 })
  else if k.k = 5 then (1, x.crash k.keep)
  else x.store k.i k.v

/-- What is known of both. -/
structure DX (w0 w : World) (t m c y s : Nat) (X : Option Nat) (cap : Nat) (T : List Int) (d : Dv) (x : Rf) (N : Nat) : Prop where
  dev : DevIs w t m c y T d
  ref : RefIs w s X cap x
  apart : ∀ i ∈ [t, m, c, y], i ∉ refB s X
  lo : (∀ i ∈ [t, m, c, y], w0.heap.size ≤ i) ∧ ∀ i ∈ refB s X, w0.heap.size ≤ i
  t64 : ∀ i ∈ T, W64 i
  few : T.length ≤ N ∧ x.ws.length ≤ N ∧ d.events ≤ N ∧ x.events ≤ N
  ats : ∀ y ∈ x.ws, 0 ≤ y.at_ ∧ y.at_ < 33554432
  bel : Below w0.heap.size w0 w
theorem DX.below {w0 w w' : World} {t m c y s : Nat} {X : Option Nat} {cap : Nat} {T : List Int} {d : Dv} {x : Rf} {N : Nat} (h : DX w0 w t m c y s X cap T d x N) (hb : Below w.heap.size w w') : DX w0 w' t m c y s X cap T d x N :=
  ⟨h.dev.below hb, h.ref.below hb, h.apart, h.lo, h.t64, h.few, h.ats, h.bel.trans (hb.mono h.bel.size)⟩
theorem DX.mono {w0 w : World} {t m c y s : Nat} {X : Option Nat} {cap : Nat} {T : List Int} {d : Dv} {x : Rf} {N N' : Nat} (h : DX w0 w t m c y s X cap T d x N) (hN : N ≤ N') : DX w0 w t m c y s X cap T d x N' :=
  ⟨h.dev, h.ref, h.apart, h.lo, h.t64, by have := h.few; omega, h.ats, h.bel⟩
/-- The device has turned. -/
theorem DX.dev' {w0 w w' : World} {t m c y s : Nat} {X : Option Nat} {cap : Nat} {T : List Int} {d : Dv} {x : Rf} {N : Nat} (h : DX w0 w t m c y s X cap T d x N) {c' y' : Nat} {T' : List Int} {d' : Dv} (hD : DevIs w' t m c' y' T' d') (hk : Kept [t, m, c, y] w w') (hc : (c' = c ∨ w.heap.size ≤ c') ∧ (y' = y ∨ w.heap.size ≤ y')) (h64 : ∀ i ∈ T', W64 i) (hT : T'.length ≤ N + 1) (he : d'.events ≤ N + 1) : DX w0 w' t m c' y' s X cap T' d' x (N + 1) := by
  have hs := h.bel.size
  have hrl := h.ref.lt
  have lo := h.lo.1
  refine ⟨hD, h.ref.kept hk (fun i hi hm => h.apart i hm hi), fun i hi hr => ?_, ⟨fun i hi => ?_, h.lo.2⟩, h64, ⟨hT, by have := h.few; omega, he, by have := h.few; omega⟩, h.ats, Kept.below h.bel hk h.lo.1 h.bel.size⟩
  · have h3 := hrl i hr
    simp only [List.mem_cons, List.not_mem_nil, or_false] at hi
    have a := h.apart i
    simp only [List.mem_cons, List.not_mem_nil, or_false] at a
    rcases hi with e | e | e | e
    · exact a (.inl e) hr
    · exact a (.inr (.inl e)) hr
    · rcases hc.1 with e2 | e2
      · exact a (.inr (.inr (.inl (e.trans e2)))) hr
      · omega
    · rcases hc.2 with e2 | e2
      · exact a (.inr (.inr (.inr (e.trans e2)))) hr
      · omega
  · have l1 := lo t (by simp)
    have l2 := lo m (by simp)
    have l3 := lo c (by simp)
    have l4 := lo y (by simp)
    simp only [List.mem_cons, List.not_mem_nil, or_false] at hi
    omega
/-- The document's device has turned. -/
theorem DX.ref' {w0 w w' : World} {t m c y s : Nat} {X : Option Nat} {cap : Nat} {T : List Int} {d : Dv} {x : Rf} {N : Nat} (h : DX w0 w t m c y s X cap T d x N) {X' : Option Nat} {cap' : Nat} {x' : Rf} (hR : RefIs w' s X' cap' x') (hk : Kept (refB s X) w w') (hq : ∀ q ∈ refB s X', q ∈ refB s X ∨ w.heap.size ≤ q) (hw : x'.ws.length ≤ N) (he : x'.events ≤ N) (ha : ∀ y ∈ x'.ws, 0 ≤ y.at_ ∧ y.at_ < 33554432) : DX w0 w' t m c y s X' cap' T d x' N := by
  have hs := h.bel.size
  have hdl := h.dev.lt
  refine ⟨h.dev.kept hk h.apart, hR, fun i hi hr => ?_, ⟨h.lo.1, fun i hi => ?_⟩, h.t64, ⟨h.few.1, hw, h.few.2.2.1, he⟩, ha, Kept.below h.bel hk h.lo.2 h.bel.size⟩
  · rcases hq i hr with e | e
    · exact h.apart i hi e
    · have := hdl i hi; omega
  · rcases hq i hi with e | e
    · exact h.lo.2 i e
    · omega

/-- What Do leaves. -/
def Done (w0 : World) (t m s : Nat) (k : De) (d : Dv) (x : Rf) (N : Nat) (e : Ending) (w' : World) : Prop :=
  ∃ c y X cap T r, e = .returned (.bool (decide (r.1 = (doX x k).1))) ∧ DoD d k r ∧ DX w0 w' t m c y s X cap T r.2 (doX x k).2 (N + 1)

theorem send_at (line : Int) (y : Wd) : (Wd.send line y).at_ = y.at_ := by unfold Wd.send; split <;> rfl
theorem clean_at (y : Wd) : y.clean.at_ = y.at_ := by unfold Wd.clean; split <;> rfl
theorem fence_at (y : Wd) : y.fence.at_ = y.at_ := by unfold Wd.fence; split; (rw [clean_at]); rfl
theorem evict_at (line : Int) (y : Wd) : (Wd.evict line y).at_ = y.at_ := by unfold Wd.evict; split; (rw [clean_at]); rfl
theorem store_at (v : Int) (y : Wd) : (Wd.store v y).at_ = y.at_ := by unfold Wd.store; rw [clean_at]
theorem ats_mapIdx {ws : List Wd} {g : Nat → Wd → Wd} (h : ∀ y ∈ ws, 0 ≤ y.at_ ∧ y.at_ < 33554432) (hg : ∀ i y, (g i y).at_ = y.at_) : ∀ y ∈ ws.mapIdx g, 0 ≤ y.at_ ∧ y.at_ < 33554432 := by
  intro y hy
  obtain ⟨i, hi, rfl⟩ := List.mem_iff_getElem.1 hy
  rw [List.getElem_mapIdx, hg]
  rw [List.length_mapIdx] at hi
  exact h _ (List.getElem_mem hi)
theorem place_mem {ws : List Wd} {i : Int} {y : Wd} (h : y ∈ placeW ws i) : y ∈ ws ∨ y = Wd.zero i := by
  unfold placeW at h
  split at h
  · exact .inl h
  · rw [List.mem_append, List.mem_append, List.mem_singleton] at h
    rcases h with h | h | h
    · exact .inl (List.mem_of_mem_take h)
    · exact .inr h
    · exact .inl (List.mem_of_mem_drop h)
theorem ats_put {x : Rf} (h : ∀ y ∈ x.ws, 0 ≤ y.at_ ∧ y.at_ < 33554432) {i v : Int} (h0 : 0 ≤ i) (h1 : i < 33554432) : ∀ y ∈ (x.put i v).ws, 0 ≤ y.at_ ∧ y.at_ < 33554432 := by
  intro y hy
  obtain ⟨z, hz, _⟩ := placeW_at x.ws i
  have hy : y ∈ (placeW x.ws i).modify (kOf x.ws i) (Wd.store v) := hy
  rw [modify_set _ hz] at hy
  rcases List.mem_or_eq_of_mem_set hy with h2 | rfl
  · rcases place_mem h2 with h3 | rfl
    · exact h y h3
    · exact ⟨h0, h1⟩
  · rw [store_at]
    rcases place_mem (List.mem_of_getElem? hz) with h3 | rfl
    · exact h _ h3
    · exact ⟨h0, h1⟩

/-- A deed, as it is handed over. -/
def deV (k : De) : Value := .agg #[.int .i64 k.k, .int .i64 k.i, .int .u64 k.v, .slice k.ka k.kn k.kc]
section
variable {w0 w : World} {t m c y s cap N : Nat} {X : Option Nat} {T : List Int} {d : Dv} {x : Rf}
theorem flush_ev (d : Dv) (i : Int) (h : d.events ≤ N) : (d.flush i).2.events ≤ N + 1 := by
  unfold Dv.flush
  split
  · show d.events ≤ _; omega
  · split
    · show d.events ≤ _; omega
    · rw [(sends_alike (lineN d i 8) d.tick).events]; show d.events + 1 ≤ _; omega
theorem fence_ev (d : Dv) (ks : List Int) (h : d.events ≤ N) : (d.fenceR ks).2.events ≤ N + 1 := by
  unfold Dv.fenceR
  split
  · show d.events ≤ _; omega
  · split
    · show d.events ≤ _; omega
    · rw [(fences_alike ks d.tick).events]; show d.events + 1 ≤ _; omega
theorem keeps_alike (l : List Int) : ∀ d : Dv, Alike4 d (d.keeps l) := by
  induction l with
  | nil => intro d; exact Alike4.refl d
  | cons x l ih => intro d; exact (persist_alike d x _).trans (ih (d.persist x ((d.cache x).getD 0)))
theorem evict_ev (d : Dv) (i : Int) (h : d.events ≤ N) : (d.evict i).2.events ≤ N + 1 := by
  unfold Dv.evict
  split
  · show d.events ≤ _; omega
  · show (d.keeps _).events ≤ _
    rw [(keeps_alike _ d).events]; omega
theorem store_ev (d : Dv) (i v : Int) (h : d.events ≤ N) : (d.store i v).2.events ≤ N + 1 := by
  unfold Dv.store
  split
  · show d.events ≤ _; omega
  · split
    · show d.events ≤ _; omega
    · rw [(put_alike d.tick i v).events]; show d.events + 1 ≤ _; omega
theorem crashN_alike (d : Dv) (ks : List Int) (keep : List Bool) : ∀ j, Alike4 d (d.crashN ks keep j) := by
  intro j
  induction j with
  | zero => exact Alike4.refl d
  | succ j ih =>
    cases hx : ks[j]? with
    | none => show Alike4 d (match ks[j]? with | none => _ | some x => _); rw [hx]; exact ih
    | some q =>
      by_cases hk : keep[j]? = some true
      · rw [crashN_yes hx hk]; exact ih.trans (persist_alike _ _ _)
      · rw [crashN_no hx hk]; exact ih

theorem DX.flushX (h : DX w0 w t m c y s X cap T d x N) (i : Int) : (x.flush i).2.ws.length ≤ N ∧ (x.flush i).2.events ≤ N + 1 ∧ ∀ z ∈ (x.flush i).2.ws, 0 ≤ z.at_ ∧ z.at_ < 33554432 := by
  have hf := h.few
  unfold Rf.flush
  split
  · exact ⟨hf.2.1, by have := hf.2.2.2; show x.events ≤ _; omega, h.ats⟩
  · split
    · exact ⟨hf.2.1, by have := hf.2.2.2; show x.events ≤ _; omega, h.ats⟩
    · refine ⟨by show (x.ws.mapIdx _).length ≤ _; rw [List.length_mapIdx]; exact hf.2.1, by show x.events + 1 ≤ _; omega, ats_mapIdx h.ats (fun _ z => send_at i z)⟩

set_option maxRecDepth 100000 in
set_option maxHeartbeats 8000000 in
theorem do_flush (h : DX w0 w t m c y s X cap T d x N) (k : De) (hk1 : k.k = 1) (hN : N < 8000) : Calls Try.prog 22 #[.pointer (some ⟨t, 0, none⟩), .pointer (some ⟨s, 0, none⟩), deV k] w (Done w0 t m s k d x N) := by
  have hba : Below w.heap.size w (w.alloc (.cells #[.int .i64 k.k, .int .i64 k.i, .int .u64 k.v, .slice k.ka k.kn k.kc] 31)).drew := ((Below.refl _ _).alloc (Nat.le_refl _) _).drew
  have HA := Lib.hid (h.below hba)
  have hdl := h.dev.lt
  have hrl := h.ref.lt
  have HND := Lib.hid (show w.heap.size ∉ [t, m, c, y] from fun hm => by have := hdl _ hm; omega)
  have HNR := Lib.hid (fun (X' : Option Nat) (hq : ∀ q ∈ refB s X', q ∈ refB s X) (hm : w.heap.size ∈ refB s X') => (show False from by have := hrl _ (hq _ hm); omega))
  have hkb : (k.k == 1) = true := by simp [hk1]
  have HK1 := Lib.hid hk1
  have hfe := h.few
  clear h hba hdl hrl hk1
  unfold deV
  go_enter Try.func22, Try.ntmps22
  go_upto_region 4 with fail
  go_region_held3 (fun w' => w'.cell? ⟨w.heap.size, 1, none⟩ = some (.int .i64 k.i))
    (first | go_keep | assumption)
    ((first
      | (go_at_call 15; refine (flush_any HA.out.dev k.i (by omega)).mono ?_; rintro e w1 ⟨rfl, hD, hk⟩; have HX1 := Lib.hid (HA.out.dev' hD hk ⟨.inl rfl, .inl rfl⟩ HA.out.t64 (by have := HA.out.few.1; omega) (flush_ev d k.i HA.out.few.2.2.1)); have hB1 : w.heap.size < w1.heap.size := (by have := hk.size; simp at this; omega); have hcell1 : w1.cell? ⟨w.heap.size, 1, none⟩ = some (.int .i64 k.i) := (hk.cell (a := ⟨w.heap.size, 1, none⟩) (by simp) HND.out).trans (by go_simp); clear hD hk)
      | (go_at_call 58; refine (rflush_any HX1.out.ref k.i HX1.out.ats (by have := HX1.out.few.2.2.2; omega)).mono ?_; rintro e w2 ⟨X2, cap2, rfl, hR, hk, hq⟩; have HF := Lib.hid (HA.out.flushX k.i); have HX2 := Lib.hid (HX1.out.ref' hR hk hq (by have := HF.out.1; omega) HF.out.2.1 HF.out.2.2); have hcell2 : w2.cell? ⟨w.heap.size, 1, none⟩ = some (.int .i64 k.i) := (hk.cell (a := ⟨w.heap.size, 1, none⟩) hB1 (HNR.out X (fun _ h => h))).trans hcell1; clear hR hk hq)))
  go_wp2
  go_ret
  refine ⟨c, y, X2, cap2, T, d.flush k.i, ?_, ?_, ?_⟩
  · unfold doX; rw [if_pos HK1.out]; rfl
  · unfold DoD; rw [if_pos HK1.out]
  · unfold doX; rw [if_pos HK1.out]; exact HX2.out

theorem DX.storeX (h : DX w0 w t m c y s X cap T d x N) (i v : Int) : (x.store i v).2.ws.length ≤ N + 1 ∧ (x.store i v).2.events ≤ N + 1 ∧ ∀ z ∈ (x.store i v).2.ws, 0 ≤ z.at_ ∧ z.at_ < 33554432 := by
  have hf := h.few
  have hnb := h.ref.nb
  unfold Rf.store
  by_cases hb : faultD x.dead i x.n ≠ 0
  · rw [if_pos hb]; exact ⟨by have := hf.2.1; show x.ws.length ≤ _; omega, by have := hf.2.2.2; show x.events ≤ _; omega, h.ats⟩
  · rw [if_neg hb]
    obtain ⟨_, h0, h1⟩ := fault_ok (show faultD x.dead i x.n = 0 by simpa using hb)
    split
    · exact ⟨by have := hf.2.1; show x.ws.length ≤ _; omega, by have := hf.2.2.2; show x.events ≤ _; omega, h.ats⟩
    · refine ⟨?_, by show x.events + 1 ≤ _; omega, ats_put (x := x.tick) h.ats h0 (by omega)⟩
      show ((placeW x.ws i).modify _ _).length ≤ _
      rw [List.length_modify]
      have := placeW_len x.ws i
      omega
theorem DX.fenceX (h : DX w0 w t m c y s X cap T d x N) : x.fence.2.ws.length ≤ N ∧ x.fence.2.events ≤ N + 1 ∧ ∀ z ∈ x.fence.2.ws, 0 ≤ z.at_ ∧ z.at_ < 33554432 := by
  have hf := h.few
  unfold Rf.fence
  split
  · exact ⟨hf.2.1, by have := hf.2.2.2; show x.events ≤ _; omega, h.ats⟩
  · split
    · exact ⟨hf.2.1, by have := hf.2.2.2; show x.events ≤ _; omega, h.ats⟩
    · refine ⟨by show (x.ws.mapIdx _).length ≤ _; rw [List.length_mapIdx]; exact hf.2.1, by show x.events + 1 ≤ _; omega, ats_mapIdx h.ats (fun _ z => fence_at z)⟩
theorem DX.evictX (h : DX w0 w t m c y s X cap T d x N) (i : Int) : (x.evict i).2.ws.length ≤ N ∧ (x.evict i).2.events ≤ N + 1 ∧ ∀ z ∈ (x.evict i).2.ws, 0 ≤ z.at_ ∧ z.at_ < 33554432 := by
  have hf := h.few
  unfold Rf.evict
  split
  · exact ⟨hf.2.1, by have := hf.2.2.2; show x.events ≤ _; omega, h.ats⟩
  · refine ⟨by show (x.ws.mapIdx _).length ≤ _; rw [List.length_mapIdx]; exact hf.2.1, by have := hf.2.2.2; show x.events ≤ _; omega, ats_mapIdx h.ats (fun _ z => evict_at i z)⟩

set_option maxRecDepth 100000 in
set_option maxHeartbeats 8000000 in
theorem do_store (h : DX w0 w t m c y s X cap T d x N) (k : De) (hi : W64 k.i) (hk1 : k.k ≠ 1) (hk2 : k.k ≠ 2) (hk3 : k.k ≠ 3) (hk4 : k.k ≠ 4) (hk5 : k.k ≠ 5) (hN : N < 8000) : Calls Try.prog 22 #[.pointer (some ⟨t, 0, none⟩), .pointer (some ⟨s, 0, none⟩), deV k] w (Done w0 t m s k d x N) := by
  have hba : Below w.heap.size w (w.alloc (.cells #[.int .i64 k.k, .int .i64 k.i, .int .u64 k.v, .slice k.ka k.kn k.kc] 31)).drew := ((Below.refl _ _).alloc (Nat.le_refl _) _).drew
  have HA := Lib.hid (h.below hba)
  have hdl := h.dev.lt
  have hrl := h.ref.lt
  have HND := Lib.hid (show w.heap.size ∉ [t, m, c, y] from fun hm => by have := hdl _ hm; omega)
  have HNR := Lib.hid (fun (X' : Option Nat) (hq : ∀ q ∈ refB s X', q ∈ refB s X) (hm : w.heap.size ∈ refB s X') => (show False from by have := hrl _ (hq _ hm); omega))
  have hkb1 : (k.k == 1) = false := by simp [hk1]
  have hkb2 : (k.k == 2) = false := by simp [hk2]
  have hkb3 : (k.k == 3) = false := by simp [hk3]
  have hkb4 : (k.k == 4) = false := by simp [hk4]
  have hkb5 : (k.k == 5) = false := by simp [hk5]
  have HKD := Lib.hid (show ∀ r, r = d.store k.i k.v → DoD d k r from fun r hr => by unfold DoD; rw [if_neg hk1, if_neg hk2, if_neg hk3, if_neg hk4, if_neg hk5]; exact hr)
  have HKX := Lib.hid (show doX x k = x.store k.i k.v from by unfold doX; rw [if_neg hk1, if_neg hk2, if_neg hk3, if_neg hk4, if_neg hk5])
  have hfe := h.few
  have HI := Lib.hid hi
  clear h hba hdl hrl hk1 hk2 hk3 hk4 hk5 hi
  unfold deV
  go_enter Try.func22, Try.ntmps22
  go_upto_region 2 with fail
  go_region_held3 (fun w' => w'.cell? ⟨w.heap.size, 1, none⟩ = some (.int .i64 k.i) ∧ w'.cell? ⟨w.heap.size, 2, none⟩ = some (.int .u64 k.v))
    (first | go_keep | assumption | exact ⟨by assumption, by assumption⟩)
    ((first
      | (go_at_call 17; refine (store_any HA.out.dev HI.out k.v (by omega) (by omega)).mono ?_; rintro e w1 ⟨rfl, hD, hk⟩; have HX1 := Lib.hid (HA.out.dev' hD hk ⟨.inl rfl, .inl rfl⟩ (fun q hq => by rcases List.mem_cons.1 hq with rfl | hq; (exact HI.out); exact HA.out.t64 q hq) (by have := HA.out.few.1; simp; omega) (store_ev d k.i k.v HA.out.few.2.2.1)); have hB1 : w.heap.size < w1.heap.size := (by have := hk.size; simp at this; omega); have hcell1 : w1.cell? ⟨w.heap.size, 1, none⟩ = some (.int .i64 k.i) := (hk.cell (a := ⟨w.heap.size, 1, none⟩) (by simp) HND.out).trans (by go_simp); have hcell2 : w1.cell? ⟨w.heap.size, 2, none⟩ = some (.int .u64 k.v) := (hk.cell (a := ⟨w.heap.size, 2, none⟩) (by simp) HND.out).trans (by go_simp); clear hD hk)
      | (go_at_call 62; refine (rstore_any HX1.out.ref k.i k.v (by have := HX1.out.few.2.1; omega) (by have := HX1.out.few.2.2.2; omega)).mono ?_; rintro e w2 ⟨X2, cap2, rfl, hR, hk, hq⟩; have HF := Lib.hid (HA.out.storeX k.i k.v); have HX2 := Lib.hid (HX1.out.ref' hR hk hq HF.out.1 HF.out.2.1 HF.out.2.2); have hcell3 : w2.cell? ⟨w.heap.size, 1, none⟩ = some (.int .i64 k.i) := (hk.cell (a := ⟨w.heap.size, 1, none⟩) hB1 (HNR.out X (fun _ h => h))).trans hcell1; have hcell4 : w2.cell? ⟨w.heap.size, 2, none⟩ = some (.int .u64 k.v) := (hk.cell (a := ⟨w.heap.size, 2, none⟩) hB1 (HNR.out X (fun _ h => h))).trans hcell2; clear hR hk hq)))
  go_wp2
  go_ret
  refine ⟨c, y, X2, cap2, k.i :: T, d.store k.i k.v, ?_, HKD.out _ rfl, ?_⟩
  · rw [HKX.out]; rfl
  · rw [HKX.out]; exact HX2.out

set_option maxRecDepth 100000 in
set_option maxHeartbeats 8000000 in
theorem do_fence (h : DX w0 w t m c y s X cap T d x N) (k : De) (hk2 : k.k = 2) (hN : N < 8000) : Calls Try.prog 22 #[.pointer (some ⟨t, 0, none⟩), .pointer (some ⟨s, 0, none⟩), deV k] w (Done w0 t m s k d x N) := by
  have hba : Below w.heap.size w (w.alloc (.cells #[.int .i64 k.k, .int .i64 k.i, .int .u64 k.v, .slice k.ka k.kn k.kc] 31)) := ((Below.refl _ _).alloc (Nat.le_refl _) _)
  have HA := Lib.hid (h.below hba)
  have hdl := h.dev.lt
  have hrl := h.ref.lt
  have HND := Lib.hid (show w.heap.size ∉ [t, m, c, y] from fun hm => by have := hdl _ hm; omega)
  have HNR := Lib.hid (fun (X' : Option Nat) (hq : ∀ q ∈ refB s X', q ∈ refB s X) (hm : w.heap.size ∈ refB s X') => (show False from by have := hrl _ (hq _ hm); omega))
  have hkb1 : (k.k == 1) = false := by simp [hk2]
  have hkb2 : (k.k == 2) = true := by simp [hk2]
  obtain ⟨_, ks, _, hr, hm, _⟩ := h.dev.my.size h.dev.ay
  have HR := Lib.hid hr
  have HM := Lib.hid hm
  have HKD := Lib.hid (show ∀ r, r = d.fenceR ks → DoD d k r from fun r he => by unfold DoD; rw [if_neg (by omega), if_pos hk2]; exact ⟨ks, hr, hm, he⟩)
  have HKX := Lib.hid (show doX x k = x.fence from by unfold doX; rw [if_neg (by omega), if_pos hk2])
  have hfe := h.few
  clear h hba hdl hrl hk2 hr hm
  unfold deV
  go_enter Try.func22, Try.ntmps22
  go_wp2_with (first
    | (go_at_call 16; refine (fence_any HA.out.dev HA.out.t64 HR.out HM.out (by omega)).mono ?_; rintro e w1 ⟨rfl, hD, hk⟩; have HX1 := Lib.hid (HA.out.dev' hD hk ⟨.inl rfl, .inl rfl⟩ HA.out.t64 (by have := HA.out.few.1; omega) (fence_ev d ks HA.out.few.2.2.1)); clear hD hk)
    | (go_at_call 59; refine (rfence_any HX1.out.ref (by have := HX1.out.few.2.2.2; omega)).mono ?_; rintro e w2 ⟨X2, cap2, rfl, hR, hk, hq⟩; have HF := Lib.hid (HA.out.fenceX); have HX2 := Lib.hid (HX1.out.ref' hR hk hq (by have := HF.out.1; omega) HF.out.2.1 HF.out.2.2); clear hR hk hq))
  go_ret
  refine ⟨c, y, X2, cap2, T, d.fenceR ks, ?_, HKD.out _ rfl, ?_⟩
  · rw [HKX.out]; rfl
  · rw [HKX.out]; exact HX2.out

theorem code_eq (a b : Bool) : (a == b) = decide ((if a = true then (1 : Int) else 0) = (if b = true then 1 else 0)) := by cases a <;> cases b <;> rfl
set_option maxRecDepth 100000 in
set_option maxHeartbeats 8000000 in
theorem do_evict (h : DX w0 w t m c y s X cap T d x N) (k : De) (hk3 : k.k = 3) : Calls Try.prog 22 #[.pointer (some ⟨t, 0, none⟩), .pointer (some ⟨s, 0, none⟩), deV k] w (Done w0 t m s k d x N) := by
  have hba : Below w.heap.size w (w.alloc (.cells #[.int .i64 k.k, .int .i64 k.i, .int .u64 k.v, .slice k.ka k.kn k.kc] 31)).drew := ((Below.refl _ _).alloc (Nat.le_refl _) _).drew
  have HA := Lib.hid (h.below hba)
  have hdl := h.dev.lt
  have hrl := h.ref.lt
  have HND := Lib.hid (show w.heap.size ∉ [t, m, c, y] from fun hm => by have := hdl _ hm; omega)
  have HNR := Lib.hid (fun (X' : Option Nat) (hq : ∀ q ∈ refB s X', q ∈ refB s X) (hm : w.heap.size ∈ refB s X') => (show False from by have := hrl _ (hq _ hm); omega))
  have hkb1 : (k.k == 1) = false := by simp [hk3]
  have hkb2 : (k.k == 2) = false := by simp [hk3]
  have hkb3 : (k.k == 3) = true := by simp [hk3]
  have HKD := Lib.hid (show ∀ r, r = (if (d.evict k.i).1 = true then (1 : Int) else 0, (d.evict k.i).2) → DoD d k r from fun r he => by unfold DoD; rw [if_neg (by omega), if_neg (by omega), if_pos hk3]; exact he)
  have HKX := Lib.hid (show doX x k = (if (x.evict k.i).1 = true then (1 : Int) else 0, (x.evict k.i).2) from by unfold doX; rw [if_neg (by omega), if_neg (by omega), if_pos hk3])
  have hfe := h.few
  clear h hba hdl hrl hk3
  unfold deV
  go_enter Try.func22, Try.ntmps22
  go_upto_region 8 with fail
  go_region_held3 (fun w' => w'.cell? ⟨w.heap.size, 1, none⟩ = some (.int .i64 k.i))
    (first | go_keep | assumption)
    ((first
      | (go_at_call 32; refine (evict_any HA.out.dev k.i).mono ?_; rintro e w1 ⟨rfl, hD, hk⟩; have HX1 := Lib.hid (HA.out.dev' hD hk ⟨.inl rfl, .inl rfl⟩ HA.out.t64 (by have := HA.out.few.1; omega) (evict_ev d k.i HA.out.few.2.2.1)); have hB1 : w.heap.size < w1.heap.size := (by have := hk.size; simp at this; omega); have hcell1 : w1.cell? ⟨w.heap.size, 1, none⟩ = some (.int .i64 k.i) := (hk.cell (a := ⟨w.heap.size, 1, none⟩) (by simp) HND.out).trans (by go_simp); clear hD hk)
      | (go_at_call 60; refine (revict_any HX1.out.ref k.i HX1.out.ats).mono ?_; rintro e w2 ⟨rfl, hR, hk⟩; have HF := Lib.hid (HA.out.evictX k.i); have HX2 := Lib.hid (HX1.out.ref' hR hk (fun _ h => .inl h) (by have := HF.out.1; omega) HF.out.2.1 HF.out.2.2); have hcell2 : w2.cell? ⟨w.heap.size, 1, none⟩ = some (.int .i64 k.i) := (hk.cell (a := ⟨w.heap.size, 1, none⟩) hB1 (HNR.out X (fun _ h => h))).trans hcell1; clear hR hk)))
  go_wp2
  go_ret
  refine ⟨c, y, X, cap, T, _, ?_, HKD.out _ rfl, ?_⟩
  · rw [HKX.out, ← code_eq]; rfl
  · rw [HKX.out]; exact HX2.out

set_option maxRecDepth 100000 in
set_option maxHeartbeats 8000000 in
theorem do_arm (h : DX w0 w t m c y s X cap T d x N) (k : De) (hi : W64 k.i) (hk4 : k.k = 4) : Calls Try.prog 22 #[.pointer (some ⟨t, 0, none⟩), .pointer (some ⟨s, 0, none⟩), deV k] w (Done w0 t m s k d x N) := by
  have hba : Below w.heap.size w (w.alloc (.cells #[.int .i64 k.k, .int .i64 k.i, .int .u64 k.v, .slice k.ka k.kn k.kc] 31)) := ((Below.refl _ _).alloc (Nat.le_refl _) _)
  have HA := Lib.hid (h.below hba)
  have hdl := h.dev.lt
  have hrl := h.ref.lt
  have HND := Lib.hid (show w.heap.size ∉ [t, m, c, y] from fun hm => by have := hdl _ hm; omega)
  have HNR := Lib.hid (fun (X' : Option Nat) (hq : ∀ q ∈ refB s X', q ∈ refB s X) (hm : w.heap.size ∈ refB s X') => (show False from by have := hrl _ (hq _ hm); omega))
  have hkb1 : (k.k == 1) = false := by simp [hk4]
  have hkb2 : (k.k == 2) = false := by simp [hk4]
  have hkb3 : (k.k == 3) = false := by simp [hk4]
  have hkb4 : (k.k == 4) = true := by simp [hk4]
  have HKD := Lib.hid (show ∀ r, r = (1, { d with armed := max k.i 0 }) → DoD d k r from fun r he => by unfold DoD; rw [if_neg (by omega), if_neg (by omega), if_neg (by omega), if_pos hk4]; exact he)
  have HKX := Lib.hid (show doX x k = (1, { x with armed := max k.i 0 }) from by unfold doX; rw [if_neg (by omega), if_neg (by omega), if_neg (by omega), if_pos hk4])
  have hfe := h.few
  have HI := Lib.hid hi
  clear h hba hdl hrl hk4 hi
  unfold deV
  go_enter Try.func22, Try.ntmps22
  go_wp2_with (first
    | (go_at_call 14; refine (arm_any HA.out.dev HI.out).mono ?_; rintro e w1 ⟨rfl, hD, hk⟩; have HX1 := Lib.hid (HA.out.dev' hD hk ⟨.inl rfl, .inl rfl⟩ HA.out.t64 (by have := HA.out.few.1; omega) (by have := HA.out.few.2.2.1; show d.events ≤ _; omega)); have hB1 : w.heap.size < w1.heap.size := (by have := hk.size; simp at this; omega); have hcell1 : w1.cell? ⟨w.heap.size, 1, none⟩ = some (.int .i64 k.i) := (hk.cell (a := ⟨w.heap.size, 1, none⟩) (by simp) HND.out).trans (by go_simp); clear hD hk)
    | (go_at_call 42; refine (rarm_any HX1.out.ref HI.out).mono ?_; rintro e w2 ⟨rfl, hR, hk⟩; have HX2 := Lib.hid (HX1.out.ref' hR hk (fun _ h => .inl h) HX1.out.few.2.1 HX1.out.few.2.2.2 HX1.out.ats); clear hR hk))
  go_ret
  refine ⟨c, y, X, cap, T, _, ?_, HKD.out _ rfl, ?_⟩
  · rw [HKX.out]; rfl
  · rw [HKX.out]; exact HX2.out

theorem crash_ev (d : Dv) (ks : List Int) (keep : List Bool) (h : d.events ≤ N) : (d.crash ks keep).events ≤ N + 1 := by
  show (d.crashN ks keep ks.length).events ≤ _
  rw [(crashN_alike d ks keep _).events]; omega
set_option maxRecDepth 100000 in
set_option maxHeartbeats 8000000 in
theorem do_crash (h : DX w0 w t m c y s X cap T d x N) (k : De) (hk5 : k.k = 5) (hB : Bools w k.ka k.kn k.keep) (hlo : k.keep ≠ [] → ∀ a, k.ka = some a → a.block < w0.heap.size) : Calls Try.prog 22 #[.pointer (some ⟨t, 0, none⟩), .pointer (some ⟨s, 0, none⟩), deV k] w (Done w0 t m s k d x N) := by
  have hba : Below w.heap.size w (w.alloc (.cells #[.int .i64 k.k, .int .i64 k.i, .int .u64 k.v, .slice k.ka k.kn k.kc] 31)) := ((Below.refl _ _).alloc (Nat.le_refl _) _)
  have HA := Lib.hid (h.below hba)
  have hdl := h.dev.lt
  have hrl := h.ref.lt
  have HND := Lib.hid (show w.heap.size ∉ [t, m, c, y] from fun hm => by have := hdl _ hm; omega)
  have HNR := Lib.hid (fun (X' : Option Nat) (hq : ∀ q ∈ refB s X', q ∈ refB s X) (hm : w.heap.size ∈ refB s X') => (show False from by have := hrl _ (hq _ hm); omega))
  have hkb1 : (k.k == 1) = false := by simp [hk5]
  have hkb2 : (k.k == 2) = false := by simp [hk5]
  have hkb3 : (k.k == 3) = false := by simp [hk5]
  have hkb4 : (k.k == 4) = false := by simp [hk5]
  have hkb5 : (k.k == 5) = true := by simp [hk5]
  obtain ⟨_, ks, _, hr, hm, _⟩ := h.dev.mc.size h.dev.ac
  have HR := Lib.hid hr
  have HM := Lib.hid hm
  have HB := Lib.hid (hB.below hba)
  have HKD := Lib.hid (show ∀ r, r = (1, d.crash ks k.keep) → DoD d k r from fun r he => by unfold DoD; rw [if_neg (by omega), if_neg (by omega), if_neg (by omega), if_neg (by omega), if_pos hk5]; exact ⟨ks, hr, hm, he⟩)
  have HKX := Lib.hid (show doX x k = (1, x.crash k.keep) from by unfold doX; rw [if_neg (by omega), if_neg (by omega), if_neg (by omega), if_neg (by omega), if_pos hk5])
  have HLD := Lib.hid (show k.keep ≠ [] → ∀ a, k.ka = some a → a.block ∉ [t, m, c, y] from fun hne a ha hm => by have := hlo hne a ha; have := h.lo.1 _ hm; omega)
  have HLR := Lib.hid (show k.keep ≠ [] → ∀ a, k.ka = some a → a.block ∉ refB s X from fun hne a ha hm => by have := hlo hne a ha; have := h.lo.2 _ hm; omega)
  have hfe := h.few
  clear h hba hdl hrl hk5 hr hm hB hlo
  unfold deV
  go_enter Try.func22, Try.ntmps22
  go_wp2_with (first
    | (go_at_call 20; refine (crash_any HA.out.dev HA.out.t64 HR.out HM.out k.kc HB.out HLD.out).mono ?_; rintro e w1 ⟨c', y', rfl, hD, hk, hc', hy'⟩; have HX1 := Lib.hid (HA.out.dev' hD hk ⟨.inr hc', .inr hy'⟩ HA.out.t64 (by have := HA.out.few.1; omega) (crash_ev d ks k.keep HA.out.few.2.2.1)); have hB1 : w.heap.size < w1.heap.size := (by have := hk.size; simp at this; omega); have hcell1 : w1.cell? ⟨w.heap.size, 3, none⟩ = some (.slice k.ka k.kn k.kc) := (hk.cell (a := ⟨w.heap.size, 3, none⟩) (by simp) HND.out).trans (by go_simp); have HB1 := Lib.hid (HB.out.kept hk HLD.out); clear hD hk)
    | (go_at_call 61; refine (rcrash_any HX1.out.ref k.kc HB1.out HLR.out).mono ?_; rintro e w2 ⟨rfl, hR, hk⟩; have HX2 := Lib.hid (HX1.out.ref' hR hk (fun _ h => .inl h) (by show (x.ws.mapIdx _).length ≤ _; rw [List.length_mapIdx]; exact HX1.out.few.2.1) HX1.out.few.2.2.2 (ats_mapIdx HX1.out.ats (fun _ z => rfl))); clear hR hk))
  go_ret
  refine ⟨c', y', X, cap, T, _, ?_, HKD.out _ rfl, ?_⟩
  · rw [HKX.out]; rfl
  · rw [HKX.out]; exact HX2.out

/-- Whatever is done. -/
theorem do_any (h : DX w0 w t m c y s X cap T d x N) (k : De) (hi : W64 k.i) (hB : Bools w k.ka k.kn k.keep) (hlo : k.keep ≠ [] → ∀ a, k.ka = some a → a.block < w0.heap.size) (hN : N < 8000) : Calls Try.prog 22 #[.pointer (some ⟨t, 0, none⟩), .pointer (some ⟨s, 0, none⟩), deV k] w (Done w0 t m s k d x N) := by
  by_cases h1 : k.k = 1
  · exact do_flush h k h1 hN
  by_cases h2 : k.k = 2
  · exact do_fence h k h2 hN
  by_cases h3 : k.k = 3
  · exact do_evict h k h3
  by_cases h4 : k.k = 4
  · exact do_arm h k hi h4
  by_cases h5 : k.k = 5
  · exact do_crash h k h5 hB hlo
  exact do_store h k hi h1 h2 h3 h4 h5 hN
end
end Go.Proofs.Ytdnoniolpplgiaa
