/- A root that is switched and read, a device that is formatted: contracts (package bank). -/
import Derived.Test.YtdnoniolpplgiaaGeom
namespace Go.Proofs.Ytdnoniolpplgiaa
open Go.RowKit Go.Maps Go.Sort Go.Shelf

def rootV (e k : Int) : Int := if k = 1 then 2 * e + 1 else 2 * e
theorem root_any (e k : Int) (w : World) (h0 : 0 ≤ e) (h1 : e ≤ 1099511627776) : Calls Try.prog 78 #[.int .i64 e, .int .i64 k] w fun en w' => en = .returned (.int .u64 (rootV e k)) ∧ w' = w := by
  unfold rootV
  by_cases hk : k = 1
  · subst hk; rw [if_pos rfl]; exact (root_one e w h0 h1).mono fun _ _ ⟨a, b⟩ => ⟨a, b.symm⟩
  · rw [if_neg hk]; exact (root_not e k w h0 h1 (by simpa using hk)).mono fun _ _ ⟨a, b⟩ => ⟨a, b.symm⟩
section
variable {w : World} {t m c y : Nat} {T : List Int} {d : Dv} {N : Nat}
theorem EX.at_ (h : EX w w t m c y T d N) {w' : World} (hb : Below w.heap.size w w') : EX w' w' t m c y T d N := ⟨h.dev.below hb, h.t64, h.few, Kept.refl _ _⟩
theorem EX.from_ {wa w' : World} (hb : Below w.heap.size w wa) (h : EX wa w' t m c y T d N) : EX w w' t m c y T d N := ⟨h.dev, h.t64, h.few, (Kept.of_below hb).trans h.kept⟩
theorem words_one (w : World) (x : Int) : Words (w.alloc (.cells #[.int .u64 x] 28)) (some ⟨w.heap.size, 0, none⟩) 1 [x] := by
  have h0 : (w.alloc (.cells #[.int .u64 x] 28)).cell? ⟨w.heap.size, 0, none⟩ = some (.int .u64 x) := by go_simp
  refine ⟨rfl, .inr ⟨w.heap.size, 0, rfl, by simp, fun i hi => ?_⟩⟩
  have hi' : i < 1 := hi
  obtain rfl : i = 0 := by omega
  exact h0
set_option maxRecDepth 100000 in
set_option maxHeartbeats 8000000 in
theorem switch_any (h : EX w w t m c y T d N) (e k : Int) (h0 : 0 ≤ e) (h1 : e ≤ 1099511627776) (hN : N ≤ 40000) : Calls Try.prog 45 #[.pointer (some ⟨t, 0, none⟩), .int .i64 e, .int .i64 k] w fun en w' => ∃ T' r, en = .returned (.int .i64 r.1) ∧ LayIs d 2 [rootV e k] r ∧ EX w w' t m c y T' r.2 (N + 12) := by
  have CR := Lib.hid (root_any e k w h0 h1)
  have hdl := h.dev.lt
  have hba : Below w.heap.size w (w.alloc (.cells #[.int .u64 (rootV e k)] 28)) := (Below.refl _ _).alloc (Nat.le_refl _) _
  have HBA := Lib.hid hba
  have CLY := Lib.hid (lay_any (h.at_ hba) (A := some ⟨w.heap.size, 0, none⟩) (n := 1) (xs := [rootV e k]) 1 (words_one w (rootV e k)) (fun _ a ha hm => by cases ha; exact Nat.lt_irrefl _ (hdl _ hm)) (at_ := 2) (by omega) (by omega) (by omega) hN)
  clear h hba hdl
  generalize rootV e k = rv at *
  go_enter Try.func45, Try.ntmps45
  go_wp2_with (first
    | (go_at_call 78; refine (CR.out).mono ?_; rintro e w2 ⟨rfl, rfl⟩)
    | (go_at_call 43; refine (CLY.out).mono ?_; rintro e w3 ⟨T', r, rfl, hL, hE⟩; have HL := Lib.hid hL; have HE := Lib.hid (EX.from_ HBA.out hE); clear hL hE))
  go_ret
  exact ⟨T', r, rfl, HL.out, HE.out⟩
set_option maxRecDepth 100000 in
set_option maxHeartbeats 8000000 in
theorem rootR_any (h : DevIs w t m c y T d) (hd : d.dead = false) (hn : 2 < d.n) {r : Int} (hr : d.holds 2 = r) (r0 : 0 ≤ r) (r1 : r < 18446744073709551616) (r2 : r / 2 ≤ 1099511627776) : Calls Try.prog 41 #[.pointer (some ⟨t, 0, none⟩)] w fun en w' => en = .returned (.tuple #[.int .i64 (r / 2), .int .i64 (r % 2), .int .i64 0]) ∧ w' = w := by
  have hl := load_any h (i := 2) (by unfold W64; omega)
  rw [hd, fault_in (by omega) hn, if_pos rfl, hr] at hl
  have CL := Lib.hid hl
  have CE := Lib.hid (epoch_yes r w r0 r1 r2)
  clear h hl hd hr
  go_enter Try.func41, Try.ntmps41
  go_wp2_with (first
    | (go_at_call 23; refine (CL.out).mono ?_; rintro e w2 ⟨rfl, rfl⟩)
    | (go_at_call 77; refine (CE.out).mono ?_; rintro e w2 ⟨rfl, rfl⟩))
  go_ret3
  exact ⟨rfl, rfl⟩
end
end Go.Proofs.Ytdnoniolpplgiaa
