/- A device that is made, in the law of a bank (package sumplaw11). -/
import Derived.Test.YtdnoniolpplgiaaMade0
namespace Go.Proofs.Ytdnoniolpplgiaa
open Go.RowKit Go.Maps Go.Sort Go.Shelf
/-- How many words a bank's parts have. -/
def bOf (pages : Int) : Int := pages / 8
def iOf (pages : Int) : Int := (pages / 8 * 32 - 2) / 2
def lOf (pages : Int) : Int := (pages / 8 * 32 - 2) - (pages / 8 * 32 - 2) / 2
def qOf (pages : Int) : Int := pages - 1 - 2 * (pages / 8)
theorem ofs {pages : Int} (h0 : 64 ≤ pages) (h1 : pages ≤ 100) : 8 ≤ bOf pages ∧ bOf pages ≤ 12 ∧ 127 ≤ iOf pages ∧ iOf pages ≤ 191 ∧ 127 ≤ lOf pages ∧ lOf pages ≤ 191 ∧ 34 + iOf pages + lOf pages ≤ pages * 32 := by
  unfold bOf iOf lOf
  omega
theorem ok_new {n : Int} (h0 : 0 ≤ n) (h1 : n ≤ 33554432) : Ok (Dv.new n) (fun _ => 0) n := ⟨rfl, rfl, cl_new n, by show min (max n 0) 33554432 = n; omega⟩
theorem ex_new {w : World} {t m c y : Nat} {n : Int} (h : DevIs w t m c y [] (Dv.new n)) : EX w w t m c y [] (Dv.new n) 0 := ⟨h, fun _ h => by simp at h, ⟨Nat.le_refl _, Int.le_refl _⟩, Kept.refl _ _⟩
theorem EX.here {w0 w : World} {t m c y : Nat} {T : List Int} {d : Dv} {N : Nat} (h : EX w0 w t m c y T d N) : EX w w t m c y T d N := ⟨h.dev, h.t64, h.few, Kept.refl _ _⟩
theorem not_old {S : List Nat} {B i : Nat} (hS : ∀ j ∈ S, B ≤ j) (hi : i < B) : i ∉ S := fun hm => by have := hS i hm; omega
/-- What goes along while a device is made. -/
structure Mk (w0 w : World) (t m c y g7 g9 : Nat) (T : List Int) (d : Dv) (N : Nat) (p b i l q : Int) : Prop where
  ex : EX w w t m c y T d N
  g : GB w g9 p b i l q
  z : ZB w g7
  o7 : g7 ∉ [t, m, c, y]
  o9 : g9 ∉ [t, m, c, y]
  new : ∀ j ∈ [t, m, c, y], w0.heap.size ≤ j
  b : Below w0.heap.size w0 w
theorem Mk.step {w0 w w' : World} {t m c y g7 g9 : Nat} {T T' : List Int} {d d' : Dv} {N N' N2 : Nat} {p b i l q : Int} (h : Mk w0 w t m c y g7 g9 T d N p b i l q) (hE : EX w w' t m c y T' d' N') (hN : N' ≤ N2) : Mk w0 w' t m c y g7 g9 T' d' N2 p b i l q :=
  ⟨hE.here.mono hN, h.g.kept hE.kept h.o9, h.z.kept hE.kept h.o7, h.o7, h.o9, h.new, hE.kept.below h.b h.new h.b.size⟩
theorem Mk.below {w0 w w' : World} {t m c y g7 g9 : Nat} {T : List Int} {d : Dv} {N : Nat} {p b i l q : Int} (h : Mk w0 w t m c y g7 g9 T d N p b i l q) (hb : Below w.heap.size w w') : Mk w0 w' t m c y g7 g9 T d N p b i l q :=
  ⟨h.ex.at_ hb, h.g.below hb, h.z.below hb, h.o7, h.o9, h.new, h.b.trans (hb.mono h.b.size)⟩
theorem Mk.words {w0 w : World} {t m c y g7 g9 : Nat} {T : List Int} {d : Dv} {N n : Nat} {p b i l q : Int} {A : Option Addr} {xs : List Int} (h : Mk w0 w t m c y g7 g9 T d N p b i l q) (hW : Words w0 A n xs) : Words w A n xs := hW.below h.b
theorem Mk.far {w0 w : World} {t m c y g7 g9 : Nat} {T : List Int} {d : Dv} {N : Nat} {p b i l q : Int} {A : Option Addr} {xs : List Int} (h : Mk w0 w t m c y g7 g9 T d N p b i l q) (hA : xs ≠ [] → ∀ a, A = some a → a.block < w0.heap.size) : xs ≠ [] → ∀ a, A = some a → a.block ∉ [t, m, c, y] := fun hx a ha => not_old h.new (hA hx a ha)
/-- .. and at its end. -/
theorem Mk.end_ {w0 w : World} {t m c y g7 g9 : Nat} {T : List Int} {d : Dv} {N : Nat} {p b i l q : Int} (h : Mk w0 w t m c y g7 g9 T d N p b i l q) (hg : w0.heap.size ≤ g7) :
    GB ((((((w.setCell ⟨g7, 0, none⟩ (.int .i64 p)).setCell ⟨g7, 1, none⟩ (.int .i64 b)).setCell ⟨g7, 2, none⟩ (.int .i64 i)).setCell ⟨g7, 3, none⟩ (.int .i64 l)).setCell ⟨g7, 4, none⟩ (.int .i64 q)).drew) g7 p b i l q ∧
    EX ((((((w.setCell ⟨g7, 0, none⟩ (.int .i64 p)).setCell ⟨g7, 1, none⟩ (.int .i64 b)).setCell ⟨g7, 2, none⟩ (.int .i64 i)).setCell ⟨g7, 3, none⟩ (.int .i64 l)).setCell ⟨g7, 4, none⟩ (.int .i64 q)).drew) ((((((w.setCell ⟨g7, 0, none⟩ (.int .i64 p)).setCell ⟨g7, 1, none⟩ (.int .i64 b)).setCell ⟨g7, 2, none⟩ (.int .i64 i)).setCell ⟨g7, 3, none⟩ (.int .i64 l)).setCell ⟨g7, 4, none⟩ (.int .i64 q)).drew) t m c y T d N ∧
    Below w0.heap.size w0 ((((((w.setCell ⟨g7, 0, none⟩ (.int .i64 p)).setCell ⟨g7, 1, none⟩ (.int .i64 b)).setCell ⟨g7, 2, none⟩ (.int .i64 i)).setCell ⟨g7, 3, none⟩ (.int .i64 l)).setCell ⟨g7, 4, none⟩ (.int .i64 q)).drew) := by
  have hk := set5_kept w g7 (.int .i64 p) (.int .i64 b) (.int .i64 i) (.int .i64 l) (.int .i64 q)
  refine ⟨(gb_set5 h.z p b i l q).below ((Below.refl _ _).drew), ?_, (set5_below h.b hg _ _ _ _ _).drew⟩
  refine ⟨(h.ex.dev.kept hk (fun j hj hm => ?_)).below ((Below.refl _ _).drew), h.ex.t64, h.ex.few, Kept.refl _ _⟩
  rw [List.mem_singleton] at hm
  exact h.o7 (hm ▸ hj)
section
variable {w : World} {A B : Option Addr} {n cap n2 cap2 : Nat} {xs ys : List Int}
set_option maxRecDepth 100000 in
set_option maxHeartbeats 8000000 in
theorem made_short (pages : Int) (h0 : 64 ≤ pages) (h1 : pages ≤ 100) (hs : iOf pages < n) : Calls Try.prog 35 #[.int .i64 pages, .slice A n cap, .slice B n2 cap2] w fun e w' => ∃ t, e = .returned (.tuple #[.pointer (some ⟨t, 0, none⟩), gv pages (bOf pages) (iOf pages) (lOf pages) (qOf pages), .bool false]) ∧ Below w.heap.size w w' := by
  have HZ := Lib.hid (ZB.new w)
  have HB1 := Lib.hid (show Below w.heap.size w (w.alloc (.cells #[.int .i64 0, .int .i64 0, .int .i64 0, .int .i64 0, .int .i64 0] 58)) from (Below.refl _ _).alloc (Nat.le_refl _) _)
  obtain ⟨hb0, hb1, hi0, hi1, hl0, hl1, hft⟩ := ofs h0 h1
  have CF0 := fun w => of_yes pages w h0 (by omega)
  change ∀ w, Calls Try.prog 65 #[.int .i64 pages] w fun e w' => e = .returned (.tuple #[gv pages (bOf pages) (iOf pages) (lOf pages) (qOf pages), .bool true]) ∧ Below w.heap.size w w' at CF0
  generalize bOf pages = b at *
  generalize iOf pages = i at *
  generalize lOf pages = l at *
  generalize qOf pages = q at *
  have CF := Lib.hid CF0
  have CG := Lib.hid (fun w => geomwords_any pages b i l q w (by omega) (by omega))
  have HOK := Lib.hid (ok_new (n := pages * 32) (by omega) (by omega))
  unfold gv at CF CG
  clear CF0
  clear HOK hl0 hl1 hft hi0 hi1
  unfold gv
  go_enter Try.func35, Try.ntmps35
  go_wp2_with (first
    | (go_at_call 65; refine (CF.out _).mono ?_; rintro e w2 ⟨rfl, hb2⟩; have HB2 := Lib.hid (HB1.out.trans (hb2.mono HB1.out.size)); have hba : Below w2.heap.size w2 (w2.alloc (.cells #[.int .i64 pages, .int .i64 b, .int .i64 i, .int .i64 l, .int .i64 q] 58)) := (Below.refl _ _).alloc (Nat.le_refl _) _; have HG2 := Lib.hid (GB.new w2 pages b i l q); have HZ2 := Lib.hid ((HZ.out.below hb2).below hba); have HB2a := Lib.hid (HB2.out.trans (hba.mono HB2.out.size)); clear hb2 hba)
    | (go_at_call 66; refine (CG.out _).mono ?_; rintro e w3 ⟨rfl, hb3⟩; have HB3 := Lib.hid (HB2a.out.trans (hb3.mono HB2a.out.size)); have HG3 := Lib.hid (HG2.out.below hb3); have HZ3 := Lib.hid (HZ2.out.below hb3); clear hb3)
    | (go_at_call 13; refine (new_any w3 (pages * 32)).mono ?_; rintro e w4 ⟨t, m, c, y, rfl, hD, hb4, hnew⟩; have HM4 := Lib.hid (show Mk w w4 t m c y w.heap.size w2.heap.size [] (Dv.new (pages * 32)) 0 pages b i l q from ⟨ex_new hD, HG3.out.below hb4, HZ3.out.below hb4, not_old hnew HZ3.out.g.lt, not_old hnew HG3.out.lt, fun j hj => Nat.le_trans HB3.out.size (hnew j hj), HB3.out.trans (hb4.mono HB3.out.size)⟩); have HG4 := Lib.hid HM4.out.g; have u0_4 := HG4.out.c0; have u1_4 := HG4.out.c1; have u2_4 := HG4.out.c2; have u3_4 := HG4.out.c3; have u4_4 := HG4.out.c4; clear hD hb4 hnew)
    | (go_at_call 67; refine (make_no (t := t) (p := pages) (b := b) (l := l) (q := q) (k := 0) (A := A) (cap := cap) hs).mono ?_; rintro e w5 ⟨rfl, hb5⟩; have HM5 := Lib.hid (HM4.out.below hb5); have HG5 := Lib.hid HM5.out.g; have u0_5 := HG5.out.c0; have u1_5 := HG5.out.c1; have u2_5 := HG5.out.c2; have u3_5 := HG5.out.c3; have u4_5 := HG5.out.c4; have z0 := HM5.out.z.g.c0; have f0 := HM5.out.z.fr 0; have z1 := HM5.out.z.g.c1; have f1 := HM5.out.z.fr 1; have z2 := HM5.out.z.g.c2; have f2 := HM5.out.z.fr 2; have z3 := HM5.out.z.g.c3; have f3 := HM5.out.z.fr 3; have z4 := HM5.out.z.g.c4; have f4 := HM5.out.z.fr 4; have zl := HM5.out.z.g.lt; clear hb5))
  go_region
  all_goals (go_wp2)
  obtain ⟨hg, hE, hB⟩ := HM5.out.end_ (Nat.le_refl _)
  refine bodyPost_ret (results_made _ hg _ _ rfl rfl rfl) rfl ?_
  exact ⟨t, rfl, hB⟩
set_option maxRecDepth 100000 in
set_option maxHeartbeats 8000000 in
theorem made_long (pages : Int) (h0 : 64 ≤ pages) (h1 : pages ≤ 100) (hW : Words w A n xs) (hA : xs ≠ [] → ∀ a, A = some a → a.block < w.heap.size) (hn : (n : Int) ≤ iOf pages) (hs : lOf pages < n2) : Calls Try.prog 35 #[.int .i64 pages, .slice A n cap, .slice B n2 cap2] w fun e w' => ∃ t, e = .returned (.tuple #[.pointer (some ⟨t, 0, none⟩), gv pages (bOf pages) (iOf pages) (lOf pages) (qOf pages), .bool false]) ∧ Below w.heap.size w w' := by
  have HZ := Lib.hid (ZB.new w)
  have HB1 := Lib.hid (show Below w.heap.size w (w.alloc (.cells #[.int .i64 0, .int .i64 0, .int .i64 0, .int .i64 0, .int .i64 0] 58)) from (Below.refl _ _).alloc (Nat.le_refl _) _)
  obtain ⟨hb0, hb1, hi0, hi1, hl0, hl1, hft⟩ := ofs h0 h1
  have CF0 := fun w => of_yes pages w h0 (by omega)
  change ∀ w, Calls Try.prog 65 #[.int .i64 pages] w fun e w' => e = .returned (.tuple #[gv pages (bOf pages) (iOf pages) (lOf pages) (qOf pages), .bool true]) ∧ Below w.heap.size w w' at CF0
  generalize bOf pages = b at *
  generalize iOf pages = i at *
  generalize lOf pages = l at *
  generalize qOf pages = q at *
  have CF := Lib.hid CF0
  have CG := Lib.hid (fun w => geomwords_any pages b i l q w (by omega) (by omega))
  have HOK := Lib.hid (ok_new (n := pages * 32) (by omega) (by omega))
  unfold gv at CF CG
  clear CF0
  have HW := Lib.hid hW
  have HA := Lib.hid hA
  clear hW hA
  unfold gv
  go_enter Try.func35, Try.ntmps35
  go_wp2_with (first
    | (go_at_call 65; refine (CF.out _).mono ?_; rintro e w2 ⟨rfl, hb2⟩; have HB2 := Lib.hid (HB1.out.trans (hb2.mono HB1.out.size)); have hba : Below w2.heap.size w2 (w2.alloc (.cells #[.int .i64 pages, .int .i64 b, .int .i64 i, .int .i64 l, .int .i64 q] 58)) := (Below.refl _ _).alloc (Nat.le_refl _) _; have HG2 := Lib.hid (GB.new w2 pages b i l q); have HZ2 := Lib.hid ((HZ.out.below hb2).below hba); have HB2a := Lib.hid (HB2.out.trans (hba.mono HB2.out.size)); clear hb2 hba)
    | (go_at_call 66; refine (CG.out _).mono ?_; rintro e w3 ⟨rfl, hb3⟩; have HB3 := Lib.hid (HB2a.out.trans (hb3.mono HB2a.out.size)); have HG3 := Lib.hid (HG2.out.below hb3); have HZ3 := Lib.hid (HZ2.out.below hb3); clear hb3)
    | (go_at_call 13; refine (new_any w3 (pages * 32)).mono ?_; rintro e w4 ⟨t, m, c, y, rfl, hD, hb4, hnew⟩; have HM4 := Lib.hid (show Mk w w4 t m c y w.heap.size w2.heap.size [] (Dv.new (pages * 32)) 0 pages b i l q from ⟨ex_new hD, HG3.out.below hb4, HZ3.out.below hb4, not_old hnew HZ3.out.g.lt, not_old hnew HG3.out.lt, fun j hj => Nat.le_trans HB3.out.size (hnew j hj), HB3.out.trans (hb4.mono HB3.out.size)⟩); have HG4 := Lib.hid HM4.out.g; have u0_4 := HG4.out.c0; have u1_4 := HG4.out.c1; have u2_4 := HG4.out.c2; have u3_4 := HG4.out.c3; have u4_4 := HG4.out.c4; clear hD hb4 hnew)
    | (go_at_call 67; refine (make_ok HM4.out.ex HOK.out cap (HM4.out.words HW.out) (HM4.out.far HA.out) (by omega) (by omega) (by omega) (by omega) (by omega) (by omega) (by omega) (by omega) (by omega)).mono ?_; rintro e w5 ⟨T5, d5, rfl, hK, hE⟩; have HK5 := Lib.hid hK; have HM5 := Lib.hid (HM4.out.step hE (N2 := 500) (by omega)); have HG5 := Lib.hid HM5.out.g; have u0_5 := HG5.out.c0; have u1_5 := HG5.out.c1; have u2_5 := HG5.out.c2; have u3_5 := HG5.out.c3; have u4_5 := HG5.out.c4; clear hK hE)
    | (go_at_call 36; refine (app_no (t := t) (p := pages) (q := q) (A := B) (cap := cap2) HM5.out.ex.dev HK5.out.bk (by simp; omega)).mono ?_; rintro e w6 ⟨rfl, hb6⟩; have HM6 := Lib.hid (HM5.out.below hb6); have HG6 := Lib.hid HM6.out.g; have u0_6 := HG6.out.c0; have u1_6 := HG6.out.c1; have u2_6 := HG6.out.c2; have u3_6 := HG6.out.c3; have u4_6 := HG6.out.c4; have z0 := HM6.out.z.g.c0; have f0 := HM6.out.z.fr 0; have z1 := HM6.out.z.g.c1; have f1 := HM6.out.z.fr 1; have z2 := HM6.out.z.g.c2; have f2 := HM6.out.z.fr 2; have z3 := HM6.out.z.g.c3; have f3 := HM6.out.z.fr 3; have z4 := HM6.out.z.g.c4; have f4 := HM6.out.z.fr 4; have zl := HM6.out.z.g.lt; clear hb6))
  go_region
  all_goals (go_wp2)
  obtain ⟨hg, hE, hB⟩ := HM6.out.end_ (Nat.le_refl _)
  refine bodyPost_ret (results_made _ hg _ _ rfl rfl rfl) rfl ?_
  exact ⟨t, rfl, hB⟩
set_option maxRecDepth 100000 in
set_option maxHeartbeats 8000000 in
theorem made_yes (pages : Int) (h0 : 64 ≤ pages) (h1 : pages ≤ 100) (hW : Words w A n xs) (hA : xs ≠ [] → ∀ a, A = some a → a.block < w.heap.size) (hW2 : Words w B n2 ys) (hA2 : ys ≠ [] → ∀ a, B = some a → a.block < w.heap.size) (hn : (n : Int) ≤ iOf pages) (hn2 : (n2 : Int) ≤ lOf pages) : Calls Try.prog 35 #[.int .i64 pages, .slice A n cap, .slice B n2 cap2] w fun e w' => ∃ t m c y T d, e = .returned (.tuple #[.pointer (some ⟨t, 0, none⟩), gv pages (bOf pages) (iOf pages) (lOf pages) (qOf pages), .bool true]) ∧ Bank d (bOf pages) (iOf pages) (lOf pages) xs ys 1937075568 pages 2 (pages * 32) ∧ EX w' w' t m c y T d 1000 ∧ (∀ j ∈ [t, m, c, y], w.heap.size ≤ j) ∧ Below w.heap.size w w' := by
  have HZ := Lib.hid (ZB.new w)
  have HB1 := Lib.hid (show Below w.heap.size w (w.alloc (.cells #[.int .i64 0, .int .i64 0, .int .i64 0, .int .i64 0, .int .i64 0] 58)) from (Below.refl _ _).alloc (Nat.le_refl _) _)
  obtain ⟨hb0, hb1, hi0, hi1, hl0, hl1, hft⟩ := ofs h0 h1
  have CF0 := fun w => of_yes pages w h0 (by omega)
  change ∀ w, Calls Try.prog 65 #[.int .i64 pages] w fun e w' => e = .returned (.tuple #[gv pages (bOf pages) (iOf pages) (lOf pages) (qOf pages), .bool true]) ∧ Below w.heap.size w w' at CF0
  generalize bOf pages = b at *
  generalize iOf pages = i at *
  generalize lOf pages = l at *
  generalize qOf pages = q at *
  have CF := Lib.hid CF0
  have CG := Lib.hid (fun w => geomwords_any pages b i l q w (by omega) (by omega))
  have HOK := Lib.hid (ok_new (n := pages * 32) (by omega) (by omega))
  unfold gv at CF CG
  clear CF0
  have HW := Lib.hid hW
  have HA := Lib.hid hA
  have HW2 := Lib.hid hW2
  have HA2 := Lib.hid hA2
  clear hW hA hW2 hA2
  unfold gv
  go_enter Try.func35, Try.ntmps35
  go_wp2_with (first
    | (go_at_call 65; refine (CF.out _).mono ?_; rintro e w2 ⟨rfl, hb2⟩; have HB2 := Lib.hid (HB1.out.trans (hb2.mono HB1.out.size)); have hba : Below w2.heap.size w2 (w2.alloc (.cells #[.int .i64 pages, .int .i64 b, .int .i64 i, .int .i64 l, .int .i64 q] 58)) := (Below.refl _ _).alloc (Nat.le_refl _) _; have HG2 := Lib.hid (GB.new w2 pages b i l q); have HZ2 := Lib.hid ((HZ.out.below hb2).below hba); have HB2a := Lib.hid (HB2.out.trans (hba.mono HB2.out.size)); clear hb2 hba)
    | (go_at_call 66; refine (CG.out _).mono ?_; rintro e w3 ⟨rfl, hb3⟩; have HB3 := Lib.hid (HB2a.out.trans (hb3.mono HB2a.out.size)); have HG3 := Lib.hid (HG2.out.below hb3); have HZ3 := Lib.hid (HZ2.out.below hb3); clear hb3)
    | (go_at_call 13; refine (new_any w3 (pages * 32)).mono ?_; rintro e w4 ⟨t, m, c, y, rfl, hD, hb4, hnew⟩; have HM4 := Lib.hid (show Mk w w4 t m c y w.heap.size w2.heap.size [] (Dv.new (pages * 32)) 0 pages b i l q from ⟨ex_new hD, HG3.out.below hb4, HZ3.out.below hb4, not_old hnew HZ3.out.g.lt, not_old hnew HG3.out.lt, fun j hj => Nat.le_trans HB3.out.size (hnew j hj), HB3.out.trans (hb4.mono HB3.out.size)⟩); have HG4 := Lib.hid HM4.out.g; have u0_4 := HG4.out.c0; have u1_4 := HG4.out.c1; have u2_4 := HG4.out.c2; have u3_4 := HG4.out.c3; have u4_4 := HG4.out.c4; clear hD hb4 hnew)
    | (go_at_call 67; refine (make_ok HM4.out.ex HOK.out cap (HM4.out.words HW.out) (HM4.out.far HA.out) (by omega) (by omega) (by omega) (by omega) (by omega) (by omega) (by omega) (by omega) (by omega)).mono ?_; rintro e w5 ⟨T5, d5, rfl, hK, hE⟩; have HK5 := Lib.hid hK; have HM5 := Lib.hid (HM4.out.step hE (N2 := 500) (by omega)); have HG5 := Lib.hid HM5.out.g; have u0_5 := HG5.out.c0; have u1_5 := HG5.out.c1; have u2_5 := HG5.out.c2; have u3_5 := HG5.out.c3; have u4_5 := HG5.out.c4; clear hK hE)
    | (go_at_call 36; refine (app_ok (q := q) (p := pages) HM5.out.ex HK5.out cap2 (HM5.out.words HW2.out) (HM5.out.far HA2.out) (by simp; omega) (by omega) (by omega)).mono ?_; rintro e w6 ⟨T6, d6, rfl, hK, hE⟩; have HK6 := Lib.hid hK; have HM6 := Lib.hid (HM5.out.step hE (N2 := 920) (by omega)); have HG6 := Lib.hid HM6.out.g; have u0_6 := HG6.out.c0; have u1_6 := HG6.out.c1; have u2_6 := HG6.out.c2; have u3_6 := HG6.out.c3; have u4_6 := HG6.out.c4; clear hK hE)
    | (go_at_call 45; refine (switch_ok HM6.out.ex HK6.out 1 0 (by omega) (by omega) (by omega) (by omega)).mono ?_; rintro e w7 ⟨T7, d7, rfl, hK, hE⟩; have HK7 := Lib.hid hK; have HM7 := Lib.hid (HM6.out.step hE (N2 := 940) (by omega)); have HG7 := Lib.hid HM7.out.g; have u0_7 := HG7.out.c0; have u1_7 := HG7.out.c1; have u2_7 := HG7.out.c2; have u3_7 := HG7.out.c3; have u4_7 := HG7.out.c4; clear hK hE)
    | (go_at_call 68; refine (format_ok (q := q) (p := pages) HM7.out.ex HK7.out (by omega) (by omega) (by omega) (by omega)).mono ?_; rintro e w8 ⟨T8, d8, rfl, hK, hE⟩; have HK8 := Lib.hid hK; have HM8 := Lib.hid (HM7.out.step hE (N2 := 1000) (by omega)); have HG8 := Lib.hid HM8.out.g; have u0_8 := HG8.out.c0; have u1_8 := HG8.out.c1; have u2_8 := HG8.out.c2; have u3_8 := HG8.out.c3; have u4_8 := HG8.out.c4; have z0 := HM8.out.z.g.c0; have f0 := HM8.out.z.fr 0; have z1 := HM8.out.z.g.c1; have f1 := HM8.out.z.fr 1; have z2 := HM8.out.z.g.c2; have f2 := HM8.out.z.fr 2; have z3 := HM8.out.z.g.c3; have f3 := HM8.out.z.fr 3; have z4 := HM8.out.z.g.c4; have f4 := HM8.out.z.fr 4; have zl := HM8.out.z.g.lt; clear hK hE))
  go_region
  all_goals (go_wp2)
  obtain ⟨hg, hE, hB⟩ := HM8.out.end_ (Nat.le_refl _)
  refine bodyPost_ret (results_made _ hg _ _ rfl rfl rfl) rfl ?_
  exact ⟨t, m, c, y, T8, d8, rfl, HK8.out, hE, HM8.out.new, hB⟩
end
end Go.Proofs.Ytdnoniolpplgiaa
