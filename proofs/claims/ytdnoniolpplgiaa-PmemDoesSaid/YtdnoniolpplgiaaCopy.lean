/- A copy of a device: a contract. -/
import Derived.Test.YtdnoniolpplgiaaDo
import Derived.Deep.RegionHeld3
namespace Go.Proofs.Ytdnoniolpplgiaa
open Go.RowKit Go.Maps Go.Sort Go.Shelf

theorem clone_any {w : World} {b : Nat} {f : Int → Option Int} (h : MapF w b f) : Calls Try.prog 64 #[.map (some b)] w fun e w' => e = .returned (.map (some w.heap.size)) ∧ MapF w' w.heap.size f ∧ Below w.heap.size w w' := by
  obtain ⟨D, ks, hown, h1⟩ := h
  have hcon := AnyW.maps_Clone_owns Try.cloneM 3 numR b (Maps.size D) D w hown
  change Calls Try.prog 64 _ _ _ at hcon
  exact hcon.mono fun e w' ⟨he, h2, _, hb⟩ => ⟨he, ⟨D, ks, h2, h1⟩, hb⟩
theorem setCell_map {w : World} {g o b : Nat} {v : Value} {f : Int → Option Int} (h : MapF w b f) (hne : b ≠ g) : MapF (w.setCell ⟨g, o, none⟩ v) b f :=
  h.kept (Lib.grownBy_setCell w g o v) (fun e => hne (by cases e; rfl))
set_option maxRecDepth 100000 in
set_option maxHeartbeats 4000000 in
theorem copy_any {w : World} {t m c y : Nat} {T : List Int} {d : Dv} (h : DevIs w t m c y T d) : Calls Try.prog 26 #[.pointer (some ⟨t, 0, none⟩)] w fun e w' => ∃ t' m' c' y', e = .returned (.pointer (some ⟨t', 0, none⟩)) ∧ DevIs w' t' m' c' y' T d ∧ Below w.heap.size w w' ∧ ∀ i ∈ [t', m', c', y'], w.heap.size ≤ i := by
  have H := Lib.hid h
  have hc0 := h.c0
  have hc1 := h.c1
  have hc2 := h.c2
  have hc3 := h.c3
  have hc4 := h.c4
  have hc5 := h.c5
  have hc6 := h.c6
  have htl := h.tl
  have CO := Lib.hid (ok_cell h.c1)
  have hba : Below w.heap.size w (w.alloc (.cells #[.int .i64 d.n, .map (some m), .map (some c), .map (some y), .int .i64 d.armed, .bool d.dead, .int .i64 d.events] 81)).drew := ((Below.refl _ _).alloc (Nat.le_refl _) _).drew
  have HD := Lib.hid (h.below hba)
  have HBA := Lib.hid hba
  clear h hba
  go_enter Try.func26, Try.ntmps26
  go_upto_region 4 with (go_at_call 46; refine (CO.out).mono ?_; rintro e w2 ⟨rfl, rfl⟩)
  have HSZ := Lib.hid (show (w2.alloc (.cells #[.int .i64 d.n, .map (some m), .map (some c), .map (some y), .int .i64 d.armed, .bool d.dead, .int .i64 d.events] 81)).drew.heap.size = w2.heap.size + 1 by simp)
  have hne1 : t ≠ w2.heap.size := by omega
  have hne2 : w2.heap.size ≠ t := by omega
  go_region_held3 (fun w' => w'.cell? ⟨t, 1, none⟩ = some (.map (some m)) ∧ w'.cell? ⟨t, 2, none⟩ = some (.map (some c)) ∧ w'.cell? ⟨t, 3, none⟩ = some (.map (some y)))
    (first | go_keep | exact ⟨by assumption, by assumption, by assumption⟩)
    ((go_at_call 64; first
      | (with_reducible refine (clone_any HD.out.mm).mono ?_; rintro e w3 ⟨rfl, hM3, hb3⟩; have HM3 := Lib.hid (show MapF w3 (w2.heap.size + 1) d.media by rw [HSZ.out] at hM3; exact hM3); have HB3 := Lib.hid hb3; have HD3 := Lib.hid (HD.out.below hb3); have a1 := HD3.out.c1; have a2 := HD3.out.c2; have a3 := HD3.out.c3; clear hM3 hb3)
      | (with_reducible refine (clone_any HD3.out.mc).mono ?_; rintro e w4 ⟨rfl, hM4, hb4⟩; have HM4 := Lib.hid hM4; have HB4 := Lib.hid hb4; have HD4 := Lib.hid (HD3.out.below hb4); have b1 := HD4.out.c1; have b2 := HD4.out.c2; have b3 := HD4.out.c3; clear hM4 hb4)
      | (with_reducible refine (clone_any HD4.out.my).mono ?_; rintro e w5 ⟨rfl, hM5, hb5⟩; have HM5 := Lib.hid hM5; have HB5 := Lib.hid hb5; have HD5 := Lib.hid (HD4.out.below hb5); have e1 := HD5.out.c1; have e2 := HD5.out.c2; have e3 := HD5.out.c3; have HB35 := Lib.hid (HB3.out.trans ((HB4.out.trans (hb5.mono HB4.out.size)).mono HB3.out.size)); have hbl := HB35.out.block w2.heap.size (by simp); have g0 : w5.cell? ⟨w2.heap.size, 0, none⟩ = some (.int .i64 d.n) := (World.cell?_of_block (a := ⟨w2.heap.size, 0, none⟩) hbl).trans (by go_simp); have g1 : w5.cell? ⟨w2.heap.size, 1, none⟩ = some (.map (some m)) := (World.cell?_of_block (a := ⟨w2.heap.size, 1, none⟩) hbl).trans (by go_simp); have g2 : w5.cell? ⟨w2.heap.size, 2, none⟩ = some (.map (some c)) := (World.cell?_of_block (a := ⟨w2.heap.size, 2, none⟩) hbl).trans (by go_simp); have g3 : w5.cell? ⟨w2.heap.size, 3, none⟩ = some (.map (some y)) := (World.cell?_of_block (a := ⟨w2.heap.size, 3, none⟩) hbl).trans (by go_simp); have g4 : w5.cell? ⟨w2.heap.size, 4, none⟩ = some (.int .i64 d.armed) := (World.cell?_of_block (a := ⟨w2.heap.size, 4, none⟩) hbl).trans (by go_simp); have g5 : w5.cell? ⟨w2.heap.size, 5, none⟩ = some (.bool d.dead) := (World.cell?_of_block (a := ⟨w2.heap.size, 5, none⟩) hbl).trans (by go_simp); have g6 : w5.cell? ⟨w2.heap.size, 6, none⟩ = some (.int .i64 d.events) := (World.cell?_of_block (a := ⟨w2.heap.size, 6, none⟩) hbl).trans (by go_simp); have gf : ∀ o, w5.frozen? ⟨w2.heap.size, o, none⟩ = false := fun o => (World.frozen?_of_block (a := ⟨w2.heap.size, o, none⟩) hbl).trans (by go_simp); clear hM5 hb5 hbl)))
  go_wp2
  go_ret
  have l3 := HM3.out.lt
  have l4 := HM4.out.lt
  have l5 := HM5.out.lt
  have m1 := (HM3.out.below HB4.out).below HB5.out
  have m2 := HM4.out.below HB5.out
  have hd := HD5.out
  have ks : ∀ (w : World) o v, Kept [w2.heap.size] w (w.setCell ⟨w2.heap.size, o, none⟩ v) := fun w o v => Kept.setCell (by simp)
  refine ⟨w2.heap.size, w2.heap.size + 1, w3.heap.size, w4.heap.size, rfl, ⟨by go_simp, by go_simp, by go_simp, by go_simp, by go_simp, by go_simp, by go_simp, fun o => by go_simp, by simp; omega, ⟨by omega, by omega, by omega, by omega, by omega, by omega⟩, ?_, ?_, ?_, hd.am, hd.ac, hd.ay, hd.tf, hd.nb, hd.ab, hd.eb⟩, ?_, ?_⟩
  · exact setCell_map (setCell_map (setCell_map m1 (by omega)) (by omega)) (by omega)
  · exact setCell_map (setCell_map (setCell_map m2 (by omega)) (by omega)) (by omega)
  · exact setCell_map (setCell_map (setCell_map HM5.out (by omega)) (by omega)) (by omega)
  · exact Kept.below (HBA.out.trans (HB35.out.mono HBA.out.size)) (((ks _ _ _).trans (ks _ _ _)).trans (ks _ _ _)) (by simp) (by omega)
  · intro i hi
    simp only [List.mem_cons, List.not_mem_nil, or_false] at hi
    omega
end Go.Proofs.Ytdnoniolpplgiaa
