/- A device's Store, Arm, New: contracts. -/
import Derived.Test.YtdnoniolpplgiaaGuard
namespace Go.Proofs.Ytdnoniolpplgiaa
open Go.RowKit Go.Maps Go.Sort Go.Shelf

def Dv.put (d : Dv) (i v : Int) : Dv := ({ d with cache := setF d.cache i v } : Dv).settle i
theorem among_cons {T : List Int} {f : Int → Option Int} (h : Among T f) (i : Int) : Among (i :: T) f := fun k hk => List.mem_cons_of_mem _ (h k hk)
theorem DevIs.more {w : World} {t m c y : Nat} {T T' : List Int} {d : Dv} (h : DevIs w t m c y T d) (hT : ∀ i ∈ T, i ∈ T') (hl : T'.length < 100000) : DevIs w t m c y T' d :=
  ⟨h.c0, h.c1, h.c2, h.c3, h.c4, h.c5, h.c6, h.fr, h.tl, h.ne, h.mm, h.mc, h.my, fun k hk => hT k (h.am k hk), fun k hk => hT k (h.ac k hk), fun k hk => hT k (h.ay k hk), hl, h.nb, h.ab, h.eb⟩

set_option maxRecDepth 100000 in
set_option maxHeartbeats 4000000 in
theorem store1_any {w : World} {t m c y : Nat} {T : List Int} {d : Dv} (h : DevIs w t m c y T d) {i : Int} (hi : W64 i) (hT : i ∈ T) (v : Int) (p0 p1 p2 : Nat)
    (h0 : w.cell? ⟨p0, 0, none⟩ = some (.int .u64 v)) (h1 : w.cell? ⟨p1, 0, none⟩ = some (.pointer (some ⟨t, 0, none⟩))) (h2 : w.cell? ⟨p2, 0, none⟩ = some (.int .i64 i)) (hp : p0 ∉ [t, m, c, y] ∧ p1 ∉ [t, m, c, y] ∧ p2 ∉ [t, m, c, y]) (hl : p1 < w.heap.size ∧ p2 < w.heap.size) :
    Calls Try.prog 56 #[.pointer (some ⟨p0, 0, none⟩), .pointer (some ⟨p1, 0, none⟩), .pointer (some ⟨p2, 0, none⟩)] w (Left t m c y T (d.put i v) w) := by
  have hD := h.below ((Below.refl w.heap.size w).drew)
  have H := Lib.hid hD
  have HI := Lib.hid hi
  have hc2 := h.c2
  obtain ⟨w2, hrun2, hm2, ht2⟩ := run_putF hD.mc hD.ac h.tf hi v
  have HT2 := Lib.hid (hD.turnC ht2.grown hm2 (among_set h.ac hT v))
  have HK2 := Lib.hid ((Kept.of_below ((Below.refl w.heap.size w).drew)).trans (Kept.of_grown (S := [t, m, c, y]) ht2.grown (by simp)))
  have q1 := (HK2.out.cell (a := ⟨p1, 0, none⟩) hl.1 hp.2.1).trans h1
  have q2 := (HK2.out.cell (a := ⟨p2, 0, none⟩) hl.2 hp.2.2).trans h2
  clear h hi hD hm2 ht2 hT hp hl
  unfold Dv.put
  go_enter Try.func56, Try.ntmps56
  go_upto_region 0 with fail
  go_region
  go_wp2_with (go_at_call 57; refine (settle_any HT2.out HI.out).mono ?_; rintro e w4 ⟨rfl, hD4, hk4⟩; have HD4 := Lib.hid hD4; have HK4 := Lib.hid (HK2.out.trans hk4); clear hD4 hk4)
  go_end0
  exact ⟨rfl, HD4.out, HK4.out⟩

/-- What Store answers, and leaves. -/
def Dv.store (d : Dv) (i v : Int) : Int × Dv := if faultD d.dead i d.n ≠ 0 then (faultD d.dead i d.n, d) else if d.armed = 1 then (5, d.cut) else (0, d.tick.put i v)
theorem store_bad {d : Dv} {i : Int} (v : Int) (h : faultD d.dead i d.n ≠ 0) : d.store i v = (faultD d.dead i d.n, d) := if_pos h
theorem store_cut {d : Dv} {i : Int} (v : Int) (h : faultD d.dead i d.n = 0) (ha : d.armed = 1) : d.store i v = (5, d.cut) := by unfold Dv.store; rw [if_neg (by simp [h]), if_pos ha]
theorem store_go {d : Dv} {i : Int} (v : Int) (h : faultD d.dead i d.n = 0) (ha : d.armed ≠ 1) : d.store i v = (0, d.tick.put i v) := by unfold Dv.store; rw [if_neg (by simp [h]), if_neg ha]

/-- What a deed answers, and leaves. -/
def Said (t m c y : Nat) (T : List Int) (r : Int × Dv) (w : World) (e : Ending) (w' : World) : Prop := e = .returned (.int .i64 r.1) ∧ DevIs w' t m c y T r.2 ∧ Kept [t, m, c, y] w w'

set_option maxRecDepth 100000 in
set_option maxHeartbeats 4000000 in
theorem store_any {w : World} {t m c y : Nat} {T : List Int} {d : Dv} (h : DevIs w t m c y T d) {i : Int} (hi : W64 i) (v : Int) (he : d.events < 900000000) (hT : T.length < 90000) :
    Calls Try.prog 17 #[.pointer (some ⟨t, 0, none⟩), .int .i64 i, .int .u64 v] w (Said t m c y (i :: T) (d.store i v) w) := by
  have hD := h.more (T' := i :: T) (fun k hk => List.mem_cons_of_mem _ hk) (by simp; omega)
  have H := Lib.hid hD
  have HI := Lib.hid hi
  have hlt := h.lt
  have hfa := fun w' (hb : Below w.heap.size w w') => fault_any (hD.below hb) i d.n
  have hwo := fun w' (hb : Below w.heap.size w w') => words_any (hD.below hb)
  have CF := Lib.hid hfa
  have CW := Lib.hid hwo
  have ha3 : Below w.heap.size w (((w.alloc (.cells #[.pointer (some ⟨t, 0, none⟩)] 25)).alloc (.cells #[.int .i64 i] 3)).alloc (.cells #[.int .u64 v] 28)) := (((Below.refl _ _).alloc (Nat.le_refl _) _).alloc (by simp) _).alloc (by simp; omega) _
  have HB := Lib.hid ha3
  have hn : ∀ k, w.heap.size ≤ k → k ∉ [t, m, c, y] := fun k hk hm => by have := hlt k hm; omega
  have HN := Lib.hid hn
  clear h hD hi hlt hfa hwo ha3 hn
  by_cases hf : faultD d.dead i d.n = 0
  · rw [hf] at CF
    by_cases ha : d.armed = 1
    · rw [store_cut v hf ha]
      clear hf
      go_enter Try.func17, Try.ntmps17
      go_upto_region 1 with fail
      go_quiet ((first | (go_at_call 31; exact Calls.quiet_of_same (CW.out _ (below_drewN HB.out _))) | (go_at_call 47; exact Calls.quiet_of_same (CF.out _ (below_drewN HB.out _)))))
      go_wp2_with (go_at_call 49; refine (guarded_cut56 (H.out.below (below_drewN HB.out _)) ha _ _ _).mono ?_; rintro e w4 ⟨rfl, hD4, hk4⟩; have HD4 := Lib.hid hD4; have HK4 := Lib.hid ((Kept.of_below (below_drewN HB.out _)).trans hk4); clear hD4 hk4)
      go_ret
      exact ⟨rfl, HD4.out, HK4.out⟩
    · rw [store_go v hf ha]
      clear hf
      go_enter Try.func17, Try.ntmps17
      go_upto_region 1 with fail
      go_quiet ((first | (go_at_call 31; exact Calls.quiet_of_same (CW.out _ (below_drewN HB.out _))) | (go_at_call 47; exact Calls.quiet_of_same (CF.out _ (below_drewN HB.out _)))))
      go_wp2_with (go_at_call 49; refine (guarded_go56 (T' := i :: T) (d' := d.tick.put i v) (H.out.below (below_drewN HB.out _)) ha he _ _ _ ?c1).mono ?_; rotate_left; rintro e w4 ⟨rfl, hD4, hk4⟩; have HD4 := Lib.hid hD4; have HK4 := Lib.hid ((Kept.of_below (below_drewN HB.out _)).trans hk4); clear hD4 hk4)
      case c1 =>
        intro w1 hD1 hk1
        exact store1_any hD1 HI.out (by simp) v _ _ _ ((hk1.cell (by simp <;> omega) (HN.out _ (by simp <;> omega))).trans (by go_simp)) ((hk1.cell (by simp <;> omega) (HN.out _ (by simp <;> omega))).trans (by go_simp)) ((hk1.cell (by simp <;> omega) (HN.out _ (by simp <;> omega))).trans (by go_simp)) ⟨HN.out _ (by omega), HN.out _ (by omega), HN.out _ (by omega)⟩ ⟨Nat.lt_of_lt_of_le (by simp <;> omega) hk1.size, Nat.lt_of_lt_of_le (by simp <;> omega) hk1.size⟩
      go_ret
      exact ⟨rfl, HD4.out, HK4.out⟩
  · rw [store_bad v hf]
    have hfb : (faultD d.dead i d.n != 0) = true := by simp [hf]
    clear hf
    generalize faultD d.dead i d.n = f at *
    go_enter Try.func17, Try.ntmps17
    go_upto_region 1 with fail
    go_quiet ((first | (go_at_call 31; exact Calls.quiet_of_same (CW.out _ (below_drewN HB.out _))) | (go_at_call 47; exact Calls.quiet_of_same (CF.out _ (below_drewN HB.out _)))))
    go_wp2
    go_ret
    exact ⟨rfl, H.out.below (below_drewN HB.out _), Kept.of_below (below_drewN HB.out _)⟩
set_option maxHeartbeats 1600000 in
theorem store_nil (w : World) (i v : Int) : Calls Try.prog 17 #[.pointer none, .int .i64 i, .int .u64 v] w fun e w' => e = .returned (.int .i64 91) ∧ Below w.heap.size w w' := by
  have ha3 : Below w.heap.size w (((w.alloc (.cells #[.pointer none] 25)).alloc (.cells #[.int .i64 i] 3)).alloc (.cells #[.int .u64 v] 28)) := (((Below.refl _ _).alloc (Nat.le_refl _) _).alloc (by simp) _).alloc (by simp; omega) _
  have HB := Lib.hid ha3
  clear ha3
  go_enter Try.func17, Try.ntmps17
  go_upto_region 1 with fail
  go_quiet ((first | (go_at_call 31; exact Calls.quiet_of_same (words_nil _)) | (go_at_call 47; exact Calls.quiet_of_same (fault_nil _ _ _))))
  go_wp2
  go_ret
  exact ⟨rfl, below_drewN HB.out _⟩

set_option maxHeartbeats 1600000 in
theorem arm_any {w : World} {t m c y : Nat} {T : List Int} {d : Dv} (h : DevIs w t m c y T d) {n : Int} (hn : W64 n) : Calls Try.prog 14 #[.pointer (some ⟨t, 0, none⟩), .int .i64 n] w (Left t m c y T { d with armed := max n 0 } w) := by
  have hc := h.c4
  have hfr := h.fr
  have CO := Lib.hid (ok_cell h.c1)
  have HS := Lib.hid (h.set4 (n := max n 0) (by unfold W64 at hn; omega))
  clear h
  go_enter Try.func14, Try.ntmps14
  go_wp2_with (go_at_call 46; refine (CO.out).mono ?_; rintro e w' ⟨rfl, hw⟩; rw [hw]; clear hw w')
  go_end0
  exact ⟨rfl, HS.out, Kept.setCell (by simp)⟩
theorem arm_nil (w : World) (n : Int) : Calls Try.prog 14 #[.pointer none, .int .i64 n] w fun e w' => e = .returned (.tuple #[]) ∧ w' = w := by
  have CO := Lib.hid (ok_nil w)
  go_enter Try.func14, Try.ntmps14
  go_wp2_with (go_at_call 46; refine (CO.out).mono ?_; rintro e w' ⟨rfl, hw⟩; rw [hw]; clear hw w')
  go_end0
  exact ⟨rfl, rfl⟩

def Dv.new (n : Int) : Dv := ⟨min (max n 0) 33554432, fun _ => none, fun _ => none, fun _ => none, 0, false, 0⟩
set_option maxRecDepth 100000 in
set_option maxHeartbeats 4000000 in
theorem new_any (w : World) (n : Int) : Calls Try.prog 13 #[.int .i64 n] w fun e w' => ∃ t m c y, e = .returned (.pointer (some ⟨t, 0, none⟩)) ∧ DevIs w' t m c y [] (Dv.new n) ∧ Below w.heap.size w w' ∧ ∀ i ∈ [t, m, c, y], w.heap.size ≤ i := by
  have hmm := @run_makeMap Try.prog
  go_enter Try.func13, Try.ntmps13
  go_wp2
  go_ret
  have b0 := fun (w : World) (o : Obj) => (Below.refl w.heap.size w).alloc (Nat.le_refl _) o
  have m1 := (((MapF.made w).below (b0 _ (.map #[] 0))).below (b0 _ (.map #[] 0))).below (b0 _ (.cells #[.int .i64 (min (max n 0) 33554432), .map (some w.heap.size), .map (some (w.heap.size + 1)), .map (some (w.heap.size + 1 + 1)), .int .i64 0, .bool false, .int .i64 0] 81))
  have m2 := ((MapF.made (w.alloc (.map #[] 0))).below (b0 _ (.map #[] 0))).below (b0 _ (.cells #[.int .i64 (min (max n 0) 33554432), .map (some w.heap.size), .map (some (w.heap.size + 1)), .map (some (w.heap.size + 1 + 1)), .int .i64 0, .bool false, .int .i64 0] 81))
  have m3 := (MapF.made ((w.alloc (.map #[] 0)).alloc (.map #[] 0))).below (b0 _ (.cells #[.int .i64 (min (max n 0) 33554432), .map (some w.heap.size), .map (some (w.heap.size + 1)), .map (some (w.heap.size + 1 + 1)), .int .i64 0, .bool false, .int .i64 0] 81))
  have hno : Among [] (fun _ : Int => (none : Option Int)) := fun k hk => by simp at hk
  unfold Dv.new
  refine ⟨_, w.heap.size, w.heap.size + 1, w.heap.size + 1 + 1, rfl, ⟨by go_simp, by go_simp, by go_simp, by go_simp, by go_simp, by go_simp, by go_simp, fun o => by go_simp, by simp, by omega, m1, ?_, ?_, hno, hno, hno, by simp, by simp only; omega, by simp only; omega, by simp only; omega⟩, ((((Below.refl _ _).alloc (Nat.le_refl _) _).alloc (by simp) _).alloc (by simp <;> omega) _).alloc (by simp <;> omega) _, ?_⟩
  · simpa using m2
  · simpa using m3
  · intro i hi
    simp only [List.mem_cons, List.not_mem_nil, or_false] at hi
    omega
end Go.Proofs.Ytdnoniolpplgiaa
