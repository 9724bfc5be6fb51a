/- A device that is made, in the law of a bank: where there is none (package sumplaw11). -/
import Derived.Test.YtdnoniolpplgiaaOks
namespace Go.Proofs.Ytdnoniolpplgiaa
open Go.RowKit Go.Maps Go.Sort Go.Shelf
section
variable {w : World} {A B : Option Addr} {n cap n2 cap2 : Nat}
/-- The box of a result. -/
structure ZB (w : World) (r : Nat) : Prop where
  g : GB w r 0 0 0 0 0
  fr : ∀ o, w.frozen? ⟨r, o, none⟩ = false
theorem ZB.new (w : World) : ZB (w.alloc (.cells #[.int .i64 0, .int .i64 0, .int .i64 0, .int .i64 0, .int .i64 0] 58)) w.heap.size := ⟨GB.new w 0 0 0 0 0, fun o => by go_simp⟩
theorem ZB.below {w w' : World} {g : Nat} (h : ZB w g) (hb : Below w.heap.size w w') : ZB w' g := ⟨h.g.below hb, fun o => (frozen_below hb (a := ⟨g, o, none⟩) h.g.lt).trans (h.fr o)⟩
theorem ZB.kept {w w' : World} {S : List Nat} {g : Nat} (h : ZB w g) (hk : Kept S w w') (hg : g ∉ S) : ZB w' g := ⟨h.g.kept hk hg, fun o => (hk.frozen (a := ⟨g, o, none⟩) h.g.lt hg).trans (h.fr o)⟩
theorem set5_kept (w : World) (g : Nat) (v0 v1 v2 v3 v4 : Value) : Kept [g] w (((((w.setCell ⟨g, 0, none⟩ v0).setCell ⟨g, 1, none⟩ v1).setCell ⟨g, 2, none⟩ v2).setCell ⟨g, 3, none⟩ v3).setCell ⟨g, 4, none⟩ v4) :=
  ((((Kept.setCell (by simp)).trans (Kept.setCell (by simp))).trans (Kept.setCell (by simp))).trans (Kept.setCell (by simp))).trans (Kept.setCell (by simp))
theorem gb_set5 {w : World} {g : Nat} (h : ZB w g) (p b i l q : Int) : GB (((((w.setCell ⟨g, 0, none⟩ (.int .i64 p)).setCell ⟨g, 1, none⟩ (.int .i64 b)).setCell ⟨g, 2, none⟩ (.int .i64 i)).setCell ⟨g, 3, none⟩ (.int .i64 l)).setCell ⟨g, 4, none⟩ (.int .i64 q)) g p b i l q := by
  have z0 := h.g.c0
  have z1 := h.g.c1
  have z2 := h.g.c2
  have z3 := h.g.c3
  have z4 := h.g.c4
  refine ⟨Nat.lt_of_lt_of_le h.g.lt (set5_kept w g _ _ _ _ _).size, ?_, ?_, ?_, ?_, ?_⟩
  all_goals go_simp
theorem results_made (tm : Array Value) {w : World} {g : Nat} {p b i l q : Int} (h : GB w g p b i l q) (x y : Value) (h6 : tm[6]? = some x) (h7 : tm[7]? = some (.pointer (some ⟨g, 0, none⟩))) (h8 : tm[8]? = some y) : (results Try.f35 tm).run Try.prog w = .ok (.tuple #[x, gv p b i l q, y]) w := by
  have e0 := h.c0
  have e1 := h.c1
  have e2 := h.c2
  have e3 := h.c3
  have e4 := h.c4
  simp [results, Try.results35, go_sem, gv, e0, e1, e2, e3, e4, h6, h7, h8]
theorem set5_below {w w2 : World} (hb : Below w.heap.size w w2) {g : Nat} (hg : w.heap.size ≤ g) (v0 v1 v2 v3 v4 : Value) : Below w.heap.size w (((((w2.setCell ⟨g, 0, none⟩ v0).setCell ⟨g, 1, none⟩ v1).setCell ⟨g, 2, none⟩ v2).setCell ⟨g, 3, none⟩ v3).setCell ⟨g, 4, none⟩ v4) :=
  (set5_kept w2 g v0 v1 v2 v3 v4).below hb (fun i hi => by rw [List.mem_singleton] at hi; omega) hb.size
set_option maxRecDepth 100000 in
set_option maxHeartbeats 8000000 in
theorem made_none (pages : Int) (hp : pages < 64 ∨ 100 < pages) : Calls Try.prog 35 #[.int .i64 pages, .slice A n cap, .slice B n2 cap2] w fun e w' => ∃ p b i l q, e = .returned (.tuple #[.pointer none, gv p b i l q, .bool false]) ∧ Below w.heap.size w w' := by
  have HZ := Lib.hid (ZB.new w)
  have HB1 := Lib.hid (show Below w.heap.size w (w.alloc (.cells #[.int .i64 0, .int .i64 0, .int .i64 0, .int .i64 0, .int .i64 0] 58)) from (Below.refl _ _).alloc (Nat.le_refl _) _)
  by_cases h : pages < 64 ∨ 1048576 < pages
  · have CF := Lib.hid (fun w => of_no pages w h)
    have H := Lib.hid h
    clear h hp
    go_enter Try.func35, Try.ntmps35
    go_wp2_with (go_at_call 65; refine (CF.out _).mono ?_; rintro e w2 ⟨rfl, hb2⟩; have HZ2 := Lib.hid (HZ.out.below hb2); have z0 := HZ2.out.g.c0; have z1 := HZ2.out.g.c1; have z2 := HZ2.out.g.c2; have z3 := HZ2.out.g.c3; have z4 := HZ2.out.g.c4; have f0 := HZ2.out.fr 0; have f1 := HZ2.out.fr 1; have f2 := HZ2.out.fr 2; have f3 := HZ2.out.fr 3; have f4 := HZ2.out.fr 4; have zl := HZ2.out.g.lt; have HB2 := Lib.hid (HB1.out.trans (hb2.mono HB1.out.size)); clear hb2)
    go_region
    all_goals (go_wp2)
    have hs := set5_below HB2.out (Nat.le_refl _) (.int .i64 0) (.int .i64 0) (.int .i64 0) (.int .i64 0) (.int .i64 0)
    have hg := (gb_set5 HZ2.out 0 0 0 0 0).below (((Below.refl _ _).alloc (Nat.le_refl _) (.cells #[.int .i64 (0), .int .i64 (0), .int .i64 (0), .int .i64 (0), .int .i64 (0)] 58)).drew)
    refine bodyPost_ret (results_made _ hg _ _ rfl rfl rfl) rfl ⟨_, _, _, _, _, rfl, (hs.alloc hs.size _).drew⟩
  · have CF := Lib.hid (fun w => of_yes pages w (by omega) (by omega))
    have hp2 : 100 < pages := by omega
    clear h hp
    generalize pages / 8 = q0 at *
    generalize (q0 * 32 - 2) / 2 = q1 at *
    generalize q0 * 32 - 2 - q1 = q2 at *
    generalize pages - 1 - 2 * q0 = q3 at *
    go_enter Try.func35, Try.ntmps35
    go_wp2_with (go_at_call 65; refine (CF.out _).mono ?_; rintro e w2 ⟨rfl, hb2⟩; have HZ2 := Lib.hid (HZ.out.below hb2); have z0 := HZ2.out.g.c0; have z1 := HZ2.out.g.c1; have z2 := HZ2.out.g.c2; have z3 := HZ2.out.g.c3; have z4 := HZ2.out.g.c4; have f0 := HZ2.out.fr 0; have f1 := HZ2.out.fr 1; have f2 := HZ2.out.fr 2; have f3 := HZ2.out.fr 3; have f4 := HZ2.out.fr 4; have zl := HZ2.out.g.lt; have HB2 := Lib.hid (HB1.out.trans (hb2.mono HB1.out.size)); clear hb2)
    go_region
    all_goals (go_wp2)
    have hs := set5_below HB2.out (Nat.le_refl _) (.int .i64 pages) (.int .i64 q0) (.int .i64 q1) (.int .i64 q2) (.int .i64 q3)
    have hg := (gb_set5 HZ2.out pages q0 q1 q2 q3).below (((Below.refl _ _).alloc (Nat.le_refl _) (.cells #[.int .i64 (pages), .int .i64 (q0), .int .i64 (q1), .int .i64 (q2), .int .i64 (q3)] 58)).drew)
    refine bodyPost_ret (results_made _ hg _ _ rfl rfl rfl) rfl ⟨_, _, _, _, _, rfl, (hs.alloc hs.size _).drew⟩
end
end Go.Proofs.Ytdnoniolpplgiaa
