/- What Do does where it stores or arms, and which blocks stay as they are. Printed by tools/e_dok2.py. -/
import Derived.Test.YtdnoniolpplgiaaDoK
namespace Go.Proofs.Ytdnoniolpplgiaa
open Go.RowKit Go.Maps Go.Sort Go.Shelf

section
variable {w0 w : World} {t m c y s cap N : Nat} {X : Option Nat} {T : List Int} {d : Dv} {x : Rf}

set_option maxRecDepth 100000 in
set_option maxHeartbeats 8000000 in
theorem dok_store (h : DX w0 w t m c y s X cap T d x N) (k : De) (hi : W64 k.i) (hk1 : k.k ≠ 1) (hk2 : k.k ≠ 2) (hk3 : k.k ≠ 3) (hk4 : k.k ≠ 4) (hk5 : k.k ≠ 5) (hN : N < 8000) : Calls Try.prog 22 #[.pointer (some ⟨t, 0, none⟩), .pointer (some ⟨s, 0, none⟩), deV k] w (DoneK w0 w t m c y s X k d x N) := by
  have hba : Below w.heap.size w (w.alloc (.cells #[.int .i64 k.k, .int .i64 k.i, .int .u64 k.v, .slice k.ka k.kn k.kc] 31)).drew := ((Below.refl _ _).alloc (Nat.le_refl _) _).drew
  have HA := Lib.hid (h.below hba)
  have HBA := Lib.hid hba
  have hdl := h.dev.lt
  have hrl := h.ref.lt
  have HND := Lib.hid (show w.heap.size ∉ [t, m, c, y] from fun hm => by have := hdl _ hm; omega)
  have HNR := Lib.hid (fun (X' : Option Nat) (hq : ∀ q ∈ refB s X', q ∈ refB s X) (hm : w.heap.size ∈ refB s X') => (show False from by have := hrl _ (hq _ hm); omega))
  have hkb1 : (k.k == 1) = false := by simp [hk1]
  have hkb2 : (k.k == 2) = false := by simp [hk2]
  have hkb3 : (k.k == 3) = false := by simp [hk3]
  have hkb4 : (k.k == 4) = false := by simp [hk4]
  have hkb5 : (k.k == 5) = false := by simp [hk5]
  have HKD := Lib.hid (show ∀ r, r = d.store k.i k.v → DoD d k r from fun r hr => by unfold DoD; rw [if_neg hk1, if_neg hk2, if_neg hk3, if_neg hk4, if_neg hk5]; exact hr)
  have HKX := Lib.hid (show doX x k = x.store k.i k.v from by unfold doX; rw [if_neg hk1, if_neg hk2, if_neg hk3, if_neg hk4, if_neg hk5])
  have hfe := h.few
  have HI := Lib.hid hi
  clear h hba hdl hrl hk1 hk2 hk3 hk4 hk5 hi
  unfold deV
  go_enter Try.func22, Try.ntmps22
  go_upto_region 2 with fail
  go_region_held3 (fun w' => w'.cell? ⟨w.heap.size, 1, none⟩ = some (.int .i64 k.i) ∧ w'.cell? ⟨w.heap.size, 2, none⟩ = some (.int .u64 k.v))
    (first | go_keep | assumption | exact ⟨by assumption, by assumption⟩)
    ((first
      | (go_at_call 17; refine (store_any HA.out.dev HI.out k.v (by omega) (by omega)).mono ?_; rintro e w1 ⟨rfl, hD, hk⟩; have HX1 := Lib.hid (HA.out.dev' hD hk ⟨.inl rfl, .inl rfl⟩ (fun q hq => by rcases List.mem_cons.1 hq with rfl | hq; (exact HI.out); exact HA.out.t64 q hq) (by have := HA.out.few.1; simp; omega) (store_ev d k.i k.v HA.out.few.2.2.1)); have hB1 : w.heap.size < w1.heap.size := (by have := hk.size; simp at this; omega); have hcell1 : w1.cell? ⟨w.heap.size, 1, none⟩ = some (.int .i64 k.i) := (hk.cell (a := ⟨w.heap.size, 1, none⟩) (by simp) HND.out).trans (by go_simp); have hcell2 : w1.cell? ⟨w.heap.size, 2, none⟩ = some (.int .u64 k.v) := (hk.cell (a := ⟨w.heap.size, 2, none⟩) (by simp) HND.out).trans (by go_simp); have HKA := Lib.hid hk; clear hD hk)
      | (go_at_call 62; refine (rstore_any HX1.out.ref k.i k.v (by have := HX1.out.few.2.1; omega) (by have := HX1.out.few.2.2.2; omega)).mono ?_; rintro e w2 ⟨X2, cap2, rfl, hR, hk, hq⟩; have HF := Lib.hid (HA.out.storeX k.i k.v); have HX2 := Lib.hid (HX1.out.ref' hR hk hq HF.out.1 HF.out.2.1 HF.out.2.2); have hcell3 : w2.cell? ⟨w.heap.size, 1, none⟩ = some (.int .i64 k.i) := (hk.cell (a := ⟨w.heap.size, 1, none⟩) hB1 (HNR.out X (fun _ h => h))).trans hcell1; have hcell4 : w2.cell? ⟨w.heap.size, 2, none⟩ = some (.int .u64 k.v) := (hk.cell (a := ⟨w.heap.size, 2, none⟩) hB1 (HNR.out X (fun _ h => h))).trans hcell2; have HKB := Lib.hid hk; clear hR hk hq)))
  go_wp2
  go_ret
  refine ⟨c, y, X2, cap2, k.i :: T, d.store k.i k.v, ?_, HKD.out _ rfl, ?_⟩
  · rw [HKX.out]; rfl
  · rw [HKX.out]; exact ⟨HX2.out, keep2 HBA.out HKA.out HKB.out, fun _ hq => .inl hq⟩

set_option maxRecDepth 100000 in
set_option maxHeartbeats 8000000 in
theorem dok_arm (h : DX w0 w t m c y s X cap T d x N) (k : De) (hi : W64 k.i) (hk4 : k.k = 4) : Calls Try.prog 22 #[.pointer (some ⟨t, 0, none⟩), .pointer (some ⟨s, 0, none⟩), deV k] w (DoneK w0 w t m c y s X k d x N) := by
  have hba : Below w.heap.size w (w.alloc (.cells #[.int .i64 k.k, .int .i64 k.i, .int .u64 k.v, .slice k.ka k.kn k.kc] 31)) := ((Below.refl _ _).alloc (Nat.le_refl _) _)
  have HA := Lib.hid (h.below hba)
  have HBA := Lib.hid hba
  have hdl := h.dev.lt
  have hrl := h.ref.lt
  have HND := Lib.hid (show w.heap.size ∉ [t, m, c, y] from fun hm => by have := hdl _ hm; omega)
  have HNR := Lib.hid (fun (X' : Option Nat) (hq : ∀ q ∈ refB s X', q ∈ refB s X) (hm : w.heap.size ∈ refB s X') => (show False from by have := hrl _ (hq _ hm); omega))
  have hkb1 : (k.k == 1) = false := by simp [hk4]
  have hkb2 : (k.k == 2) = false := by simp [hk4]
  have hkb3 : (k.k == 3) = false := by simp [hk4]
  have hkb4 : (k.k == 4) = true := by simp [hk4]
  have HKD := Lib.hid (show ∀ r, r = (1, { d with armed := max k.i 0 }) → DoD d k r from fun r he => by unfold DoD; rw [if_neg (by omega), if_neg (by omega), if_neg (by omega), if_pos hk4]; exact he)
  have HKX := Lib.hid (show doX x k = (1, { x with armed := max k.i 0 }) from by unfold doX; rw [if_neg (by omega), if_neg (by omega), if_neg (by omega), if_pos hk4])
  have hfe := h.few
  have HI := Lib.hid hi
  clear h hba hdl hrl hk4 hi
  unfold deV
  go_enter Try.func22, Try.ntmps22
  go_wp2_with (first
    | (go_at_call 14; refine (arm_any HA.out.dev HI.out).mono ?_; rintro e w1 ⟨rfl, hD, hk⟩; have HX1 := Lib.hid (HA.out.dev' hD hk ⟨.inl rfl, .inl rfl⟩ HA.out.t64 (by have := HA.out.few.1; omega) (by have := HA.out.few.2.2.1; show d.events ≤ _; omega)); have hB1 : w.heap.size < w1.heap.size := (by have := hk.size; simp at this; omega); have hcell1 : w1.cell? ⟨w.heap.size, 1, none⟩ = some (.int .i64 k.i) := (hk.cell (a := ⟨w.heap.size, 1, none⟩) (by simp) HND.out).trans (by go_simp); have HKA := Lib.hid hk; clear hD hk)
    | (go_at_call 42; refine (rarm_any HX1.out.ref HI.out).mono ?_; rintro e w2 ⟨rfl, hR, hk⟩; have HX2 := Lib.hid (HX1.out.ref' hR hk (fun _ h => .inl h) HX1.out.few.2.1 HX1.out.few.2.2.2 HX1.out.ats); have HKB := Lib.hid hk; clear hR hk))
  go_ret
  refine ⟨c, y, X, cap, T, _, ?_, HKD.out _ rfl, ?_⟩
  · rw [HKX.out]; rfl
  · rw [HKX.out]; exact ⟨HX2.out, keep2 HBA.out HKA.out HKB.out, fun _ hq => .inl hq⟩

theorem dok_all (h : DX w0 w t m c y s X cap T d x N) (k : De) (hi : W64 k.i) (hB : Bools w k.ka k.kn k.keep) (hlo : k.keep ≠ [] → ∀ a, k.ka = some a → a.block < w0.heap.size) (hN : N < 8000) : Calls Try.prog 22 #[.pointer (some ⟨t, 0, none⟩), .pointer (some ⟨s, 0, none⟩), .agg #[.int .i64 k.k, .int .i64 k.i, .int .u64 k.v, .slice k.ka k.kn k.kc]] w (DoneK w0 w t m c y s X k d x N) := by
  show Calls Try.prog 22 #[.pointer (some ⟨t, 0, none⟩), .pointer (some ⟨s, 0, none⟩), deV k] w (DoneK w0 w t m c y s X k d x N)
  by_cases k1 : k.k = 1
  · exact dok_flush h k k1 hN
  by_cases k2 : k.k = 2
  · exact dok_fence h k k2 hN
  by_cases k3 : k.k = 3
  · exact dok_evict h k k3
  by_cases k4 : k.k = 4
  · exact dok_arm h k hi k4
  by_cases k5 : k.k = 5
  · exact dok_crash h k k5 hB hlo
  exact dok_store h k hi k1 k2 k3 k4 k5 hN
end
end Go.Proofs.Ytdnoniolpplgiaa
