/- What Do does, and which blocks stay as they are. Printed by tools/e_dok.py. -/
import Derived.Test.YtdnoniolpplgiaaDo
namespace Go.Proofs.Ytdnoniolpplgiaa
open Go.RowKit Go.Maps Go.Sort Go.Shelf

def DoneK (w0 w : World) (t m c y s : Nat) (X : Option Nat) (k : De) (d : Dv) (x : Rf) (N : Nat) (e : Ending) (w' : World) : Prop :=
  ∃ c' y' X' cap' T r, e = .returned (.bool (decide (r.1 = (doX x k).1))) ∧ DoD d k r ∧ DX w0 w' t m c' y' s X' cap' T r.2 (doX x k).2 (N + 1) ∧ Kept ([t, m, c, y] ++ refB s X) w w' ∧ ∀ q ∈ [t, m, c', y'], q ∈ [t, m, c, y] ∨ w.heap.size ≤ q
theorem keep2 {w wa w1 w2 : World} {A B : List Nat} (hb : Below w.heap.size w wa) (h1 : Kept A wa w1) (h2 : Kept B w1 w2) : Kept (A ++ B) w w2 :=
  (Kept.of_below hb).trans ((h1.mono (fun _ hi => List.mem_append_left _ hi)).trans (h2.mono (fun _ hi => List.mem_append_right _ hi)))
section
variable {w0 w : World} {t m c y s cap N : Nat} {X : Option Nat} {T : List Int} {d : Dv} {x : Rf}

set_option maxRecDepth 100000 in
set_option maxHeartbeats 8000000 in
theorem dok_flush (h : DX w0 w t m c y s X cap T d x N) (k : De) (hk1 : k.k = 1) (hN : N < 8000) : Calls Try.prog 22 #[.pointer (some ⟨t, 0, none⟩), .pointer (some ⟨s, 0, none⟩), deV k] w (DoneK w0 w t m c y s X k d x N) := by
  have hba : Below w.heap.size w (w.alloc (.cells #[.int .i64 k.k, .int .i64 k.i, .int .u64 k.v, .slice k.ka k.kn k.kc] 31)).drew := ((Below.refl _ _).alloc (Nat.le_refl _) _).drew
  have HA := Lib.hid (h.below hba)
  have HBA := Lib.hid hba
  have hdl := h.dev.lt
  have hrl := h.ref.lt
  have HND := Lib.hid (show w.heap.size ∉ [t, m, c, y] from fun hm => by have := hdl _ hm; omega)
  have HNR := Lib.hid (fun (X' : Option Nat) (hq : ∀ q ∈ refB s X', q ∈ refB s X) (hm : w.heap.size ∈ refB s X') => (show False from by have := hrl _ (hq _ hm); omega))
  have hkb : (k.k == 1) = true := by simp [hk1]
  have HK1 := Lib.hid hk1
  have hfe := h.few
  clear h hba hdl hrl hk1
  unfold deV
  go_enter Try.func22, Try.ntmps22
  go_upto_region 4 with fail
  go_region_held3 (fun w' => w'.cell? ⟨w.heap.size, 1, none⟩ = some (.int .i64 k.i))
    (first | go_keep | assumption)
    ((first
      | (go_at_call 15; refine (flush_any HA.out.dev k.i (by omega)).mono ?_; rintro e w1 ⟨rfl, hD, hk⟩; have HX1 := Lib.hid (HA.out.dev' hD hk ⟨.inl rfl, .inl rfl⟩ HA.out.t64 (by have := HA.out.few.1; omega) (flush_ev d k.i HA.out.few.2.2.1)); have hB1 : w.heap.size < w1.heap.size := (by have := hk.size; simp at this; omega); have hcell1 : w1.cell? ⟨w.heap.size, 1, none⟩ = some (.int .i64 k.i) := (hk.cell (a := ⟨w.heap.size, 1, none⟩) (by simp) HND.out).trans (by go_simp); have HKA := Lib.hid hk; clear hD hk)
      | (go_at_call 58; refine (rflush_any HX1.out.ref k.i HX1.out.ats (by have := HX1.out.few.2.2.2; omega)).mono ?_; rintro e w2 ⟨X2, cap2, rfl, hR, hk, hq⟩; have HF := Lib.hid (HA.out.flushX k.i); have HX2 := Lib.hid (HX1.out.ref' hR hk hq (by have := HF.out.1; omega) HF.out.2.1 HF.out.2.2); have hcell2 : w2.cell? ⟨w.heap.size, 1, none⟩ = some (.int .i64 k.i) := (hk.cell (a := ⟨w.heap.size, 1, none⟩) hB1 (HNR.out X (fun _ h => h))).trans hcell1; have HKB := Lib.hid hk; clear hR hk hq)))
  go_wp2
  go_ret
  refine ⟨c, y, X2, cap2, T, d.flush k.i, ?_, ?_, ?_⟩
  · unfold doX; rw [if_pos HK1.out]; rfl
  · unfold DoD; rw [if_pos HK1.out]
  · unfold doX; rw [if_pos HK1.out]; exact ⟨HX2.out, keep2 HBA.out HKA.out HKB.out, fun _ hq => .inl hq⟩

set_option maxRecDepth 100000 in
set_option maxHeartbeats 8000000 in
theorem dok_fence (h : DX w0 w t m c y s X cap T d x N) (k : De) (hk2 : k.k = 2) (hN : N < 8000) : Calls Try.prog 22 #[.pointer (some ⟨t, 0, none⟩), .pointer (some ⟨s, 0, none⟩), deV k] w (DoneK w0 w t m c y s X k d x N) := by
  have hba : Below w.heap.size w (w.alloc (.cells #[.int .i64 k.k, .int .i64 k.i, .int .u64 k.v, .slice k.ka k.kn k.kc] 31)) := ((Below.refl _ _).alloc (Nat.le_refl _) _)
  have HA := Lib.hid (h.below hba)
  have HBA := Lib.hid hba
  have hdl := h.dev.lt
  have hrl := h.ref.lt
  have HND := Lib.hid (show w.heap.size ∉ [t, m, c, y] from fun hm => by have := hdl _ hm; omega)
  have HNR := Lib.hid (fun (X' : Option Nat) (hq : ∀ q ∈ refB s X', q ∈ refB s X) (hm : w.heap.size ∈ refB s X') => (show False from by have := hrl _ (hq _ hm); omega))
  have hkb1 : (k.k == 1) = false := by simp [hk2]
  have hkb2 : (k.k == 2) = true := by simp [hk2]
  obtain ⟨_, ks, _, hr, hm, _⟩ := h.dev.my.size h.dev.ay
  have HR := Lib.hid hr
  have HM := Lib.hid hm
  have HKD := Lib.hid (show ∀ r, r = d.fenceR ks → DoD d k r from fun r he => by unfold DoD; rw [if_neg (by omega), if_pos hk2]; exact ⟨ks, hr, hm, he⟩)
  have HKX := Lib.hid (show doX x k = x.fence from by unfold doX; rw [if_neg (by omega), if_pos hk2])
  have hfe := h.few
  clear h hba hdl hrl hk2 hr hm
  unfold deV
  go_enter Try.func22, Try.ntmps22
  go_wp2_with (first
    | (go_at_call 16; refine (fence_any HA.out.dev HA.out.t64 HR.out HM.out (by omega)).mono ?_; rintro e w1 ⟨rfl, hD, hk⟩; have HX1 := Lib.hid (HA.out.dev' hD hk ⟨.inl rfl, .inl rfl⟩ HA.out.t64 (by have := HA.out.few.1; omega) (fence_ev d ks HA.out.few.2.2.1)); have HKA := Lib.hid hk; clear hD hk)
    | (go_at_call 59; refine (rfence_any HX1.out.ref (by have := HX1.out.few.2.2.2; omega)).mono ?_; rintro e w2 ⟨X2, cap2, rfl, hR, hk, hq⟩; have HF := Lib.hid (HA.out.fenceX); have HX2 := Lib.hid (HX1.out.ref' hR hk hq (by have := HF.out.1; omega) HF.out.2.1 HF.out.2.2); have HKB := Lib.hid hk; clear hR hk hq))
  go_ret
  refine ⟨c, y, X2, cap2, T, d.fenceR ks, ?_, HKD.out _ rfl, ?_⟩
  · rw [HKX.out]; rfl
  · rw [HKX.out]; exact ⟨HX2.out, keep2 HBA.out HKA.out HKB.out, fun _ hq => .inl hq⟩

set_option maxRecDepth 100000 in
set_option maxHeartbeats 8000000 in
theorem dok_evict (h : DX w0 w t m c y s X cap T d x N) (k : De) (hk3 : k.k = 3) : Calls Try.prog 22 #[.pointer (some ⟨t, 0, none⟩), .pointer (some ⟨s, 0, none⟩), deV k] w (DoneK w0 w t m c y s X k d x N) := by
  have hba : Below w.heap.size w (w.alloc (.cells #[.int .i64 k.k, .int .i64 k.i, .int .u64 k.v, .slice k.ka k.kn k.kc] 31)).drew := ((Below.refl _ _).alloc (Nat.le_refl _) _).drew
  have HA := Lib.hid (h.below hba)
  have HBA := Lib.hid hba
  have hdl := h.dev.lt
  have hrl := h.ref.lt
  have HND := Lib.hid (show w.heap.size ∉ [t, m, c, y] from fun hm => by have := hdl _ hm; omega)
  have HNR := Lib.hid (fun (X' : Option Nat) (hq : ∀ q ∈ refB s X', q ∈ refB s X) (hm : w.heap.size ∈ refB s X') => (show False from by have := hrl _ (hq _ hm); omega))
  have hkb1 : (k.k == 1) = false := by simp [hk3]
  have hkb2 : (k.k == 2) = false := by simp [hk3]
  have hkb3 : (k.k == 3) = true := by simp [hk3]
  have HKD := Lib.hid (show ∀ r, r = (if (d.evict k.i).1 = true then (1 : Int) else 0, (d.evict k.i).2) → DoD d k r from fun r he => by unfold DoD; rw [if_neg (by omega), if_neg (by omega), if_pos hk3]; exact he)
  have HKX := Lib.hid (show doX x k = (if (x.evict k.i).1 = true then (1 : Int) else 0, (x.evict k.i).2) from by unfold doX; rw [if_neg (by omega), if_neg (by omega), if_pos hk3])
  have hfe := h.few
  clear h hba hdl hrl hk3
  unfold deV
  go_enter Try.func22, Try.ntmps22
  go_upto_region 8 with fail
  go_region_held3 (fun w' => w'.cell? ⟨w.heap.size, 1, none⟩ = some (.int .i64 k.i))
    (first | go_keep | assumption)
    ((first
      | (go_at_call 32; refine (evict_any HA.out.dev k.i).mono ?_; rintro e w1 ⟨rfl, hD, hk⟩; have HX1 := Lib.hid (HA.out.dev' hD hk ⟨.inl rfl, .inl rfl⟩ HA.out.t64 (by have := HA.out.few.1; omega) (evict_ev d k.i HA.out.few.2.2.1)); have hB1 : w.heap.size < w1.heap.size := (by have := hk.size; simp at this; omega); have hcell1 : w1.cell? ⟨w.heap.size, 1, none⟩ = some (.int .i64 k.i) := (hk.cell (a := ⟨w.heap.size, 1, none⟩) (by simp) HND.out).trans (by go_simp); have HKA := Lib.hid hk; clear hD hk)
      | (go_at_call 60; refine (revict_any HX1.out.ref k.i HX1.out.ats).mono ?_; rintro e w2 ⟨rfl, hR, hk⟩; have HF := Lib.hid (HA.out.evictX k.i); have HX2 := Lib.hid (HX1.out.ref' hR hk (fun _ h => .inl h) (by have := HF.out.1; omega) HF.out.2.1 HF.out.2.2); have hcell2 : w2.cell? ⟨w.heap.size, 1, none⟩ = some (.int .i64 k.i) := (hk.cell (a := ⟨w.heap.size, 1, none⟩) hB1 (HNR.out X (fun _ h => h))).trans hcell1; have HKB := Lib.hid hk; clear hR hk)))
  go_wp2
  go_ret
  refine ⟨c, y, X, cap, T, _, ?_, HKD.out _ rfl, ?_⟩
  · rw [HKX.out, ← code_eq]; rfl
  · rw [HKX.out]; exact ⟨HX2.out, keep2 HBA.out HKA.out HKB.out, fun _ hq => .inl hq⟩

set_option maxRecDepth 100000 in
set_option maxHeartbeats 8000000 in
theorem dok_crash (h : DX w0 w t m c y s X cap T d x N) (k : De) (hk5 : k.k = 5) (hB : Bools w k.ka k.kn k.keep) (hlo : k.keep ≠ [] → ∀ a, k.ka = some a → a.block < w0.heap.size) : Calls Try.prog 22 #[.pointer (some ⟨t, 0, none⟩), .pointer (some ⟨s, 0, none⟩), deV k] w (DoneK w0 w t m c y s X k d x N) := by
  have hba : Below w.heap.size w (w.alloc (.cells #[.int .i64 k.k, .int .i64 k.i, .int .u64 k.v, .slice k.ka k.kn k.kc] 31)) := ((Below.refl _ _).alloc (Nat.le_refl _) _)
  have HA := Lib.hid (h.below hba)
  have HBA := Lib.hid hba
  have hba2 := Lib.hid hba.size
  have hdl := h.dev.lt
  have hrl := h.ref.lt
  have HND := Lib.hid (show w.heap.size ∉ [t, m, c, y] from fun hm => by have := hdl _ hm; omega)
  have HNR := Lib.hid (fun (X' : Option Nat) (hq : ∀ q ∈ refB s X', q ∈ refB s X) (hm : w.heap.size ∈ refB s X') => (show False from by have := hrl _ (hq _ hm); omega))
  have hkb1 : (k.k == 1) = false := by simp [hk5]
  have hkb2 : (k.k == 2) = false := by simp [hk5]
  have hkb3 : (k.k == 3) = false := by simp [hk5]
  have hkb4 : (k.k == 4) = false := by simp [hk5]
  have hkb5 : (k.k == 5) = true := by simp [hk5]
  obtain ⟨_, ks, _, hr, hm, _⟩ := h.dev.mc.size h.dev.ac
  have HR := Lib.hid hr
  have HM := Lib.hid hm
  have HB := Lib.hid (hB.below hba)
  have HKD := Lib.hid (show ∀ r, r = (1, d.crash ks k.keep) → DoD d k r from fun r he => by unfold DoD; rw [if_neg (by omega), if_neg (by omega), if_neg (by omega), if_neg (by omega), if_pos hk5]; exact ⟨ks, hr, hm, he⟩)
  have HKX := Lib.hid (show doX x k = (1, x.crash k.keep) from by unfold doX; rw [if_neg (by omega), if_neg (by omega), if_neg (by omega), if_neg (by omega), if_pos hk5])
  have HLD := Lib.hid (show k.keep ≠ [] → ∀ a, k.ka = some a → a.block ∉ [t, m, c, y] from fun hne a ha hm => by have := hlo hne a ha; have := h.lo.1 _ hm; omega)
  have HLR := Lib.hid (show k.keep ≠ [] → ∀ a, k.ka = some a → a.block ∉ refB s X from fun hne a ha hm => by have := hlo hne a ha; have := h.lo.2 _ hm; omega)
  have hfe := h.few
  clear h hba hdl hrl hk5 hr hm hB hlo
  unfold deV
  go_enter Try.func22, Try.ntmps22
  go_wp2_with (first
    | (go_at_call 20; refine (crash_any HA.out.dev HA.out.t64 HR.out HM.out k.kc HB.out HLD.out).mono ?_; rintro e w1 ⟨c', y', rfl, hD, hk, hc', hy'⟩; have HX1 := Lib.hid (HA.out.dev' hD hk ⟨.inr hc', .inr hy'⟩ HA.out.t64 (by have := HA.out.few.1; omega) (crash_ev d ks k.keep HA.out.few.2.2.1)); have hB1 : w.heap.size < w1.heap.size := (by have := hk.size; simp at this; omega); have hcell1 : w1.cell? ⟨w.heap.size, 3, none⟩ = some (.slice k.ka k.kn k.kc) := (hk.cell (a := ⟨w.heap.size, 3, none⟩) (by simp) HND.out).trans (by go_simp); have HB1 := Lib.hid (HB.out.kept hk HLD.out); have HKA := Lib.hid hk; have HNW := Lib.hid (show ∀ q ∈ [t, m, c', y'], q ∈ [t, m, c, y] ∨ w.heap.size ≤ q from fun q hq => by have h1 := hba2.out; have h2 := Nat.le_trans h1 hc'; have h3 := Nat.le_trans h1 hy'; simp only [List.mem_cons, List.not_mem_nil, or_false] at hq ⊢; rcases hq with rfl | rfl | rfl | rfl; (exact .inl (.inl rfl)); (exact .inl (.inr (.inl rfl))); (exact .inr h2); (exact .inr h3)); clear hD hk)
    | (go_at_call 61; refine (rcrash_any HX1.out.ref k.kc HB1.out HLR.out).mono ?_; rintro e w2 ⟨rfl, hR, hk⟩; have HX2 := Lib.hid (HX1.out.ref' hR hk (fun _ h => .inl h) (by show (x.ws.mapIdx _).length ≤ _; rw [List.length_mapIdx]; exact HX1.out.few.2.1) HX1.out.few.2.2.2 (ats_mapIdx HX1.out.ats (fun _ z => rfl))); have HKB := Lib.hid hk; clear hR hk))
  go_ret
  refine ⟨c', y', X, cap, T, _, ?_, HKD.out _ rfl, ?_⟩
  · rw [HKX.out]; rfl
  · rw [HKX.out]; exact ⟨HX2.out, keep2 HBA.out HKA.out HKB.out, HNW.out⟩

theorem dok_any (h : DX w0 w t m c y s X cap T d x N) (k : De) (h1 : ¬ k.k ≤ 0) (h4 : k.k ≠ 4) (h5 : ¬ 5 < k.k) (hB : Bools w k.ka k.kn k.keep) (hlo : k.keep ≠ [] → ∀ a, k.ka = some a → a.block < w0.heap.size) (hN : N < 8000) : Calls Try.prog 22 #[.pointer (some ⟨t, 0, none⟩), .pointer (some ⟨s, 0, none⟩), deV k] w (DoneK w0 w t m c y s X k d x N) := by
  by_cases k1 : k.k = 1
  · exact dok_flush h k k1 hN
  by_cases k2 : k.k = 2
  · exact dok_fence h k k2 hN
  by_cases k3 : k.k = 3
  · exact dok_evict h k k3
  exact dok_crash h k (by omega) hB hlo
end
end Go.Proofs.Ytdnoniolpplgiaa
