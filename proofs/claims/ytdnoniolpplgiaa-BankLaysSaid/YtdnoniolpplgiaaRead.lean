/- What is read of a bank, and how much room its log has: contracts (package bank). -/
import Derived.Test.YtdnoniolpplgiaaHeads
namespace Go.Proofs.Ytdnoniolpplgiaa
open Go.RowKit Go.Maps Go.Sort Go.Shelf

/-- A geom's box. -/
structure GB (w : World) (g : Nat) (p b i l q : Int) : Prop where
  lt : g < w.heap.size
  c0 : w.cell? ⟨g, 0, none⟩ = some (.int .i64 p)
  c1 : w.cell? ⟨g, 1, none⟩ = some (.int .i64 b)
  c2 : w.cell? ⟨g, 2, none⟩ = some (.int .i64 i)
  c3 : w.cell? ⟨g, 3, none⟩ = some (.int .i64 l)
  c4 : w.cell? ⟨g, 4, none⟩ = some (.int .i64 q)
theorem GB.below {w w' : World} {g : Nat} {p b i l q : Int} (h : GB w g p b i l q) (hb : Below w.heap.size w w') : GB w' g p b i l q :=
  ⟨Nat.lt_of_lt_of_le h.lt hb.size, (hb.cell h.lt).trans h.c0, (hb.cell h.lt).trans h.c1, (hb.cell h.lt).trans h.c2, (hb.cell h.lt).trans h.c3, (hb.cell h.lt).trans h.c4⟩
theorem GB.new (w : World) (p b i l q : Int) : GB (w.alloc (.cells #[.int .i64 p, .int .i64 b, .int .i64 i, .int .i64 l, .int .i64 q] 58)) w.heap.size p b i l q :=
  ⟨by simp, by go_simp, by go_simp, by go_simp, by go_simp, by go_simp⟩
/-- A bank on a device: how long its log and its picture are. -/
structure Bk (d : Dv) (b i l k : Int) (n0 n1 : Nat) : Prop where
  dead : d.dead = false
  b0 : 0 ≤ b
  b1 : b ≤ 131072
  i1 : i ≤ 5000000
  l1 : l ≤ 5000000
  fits : bankAt b k + 2 + i + l ≤ d.n
  e0 : d.holds (bankAt b k) = n0
  e1 : d.holds (bankAt b k + 1) = n1
  a0 : n0 ≤ l
  a1 : n1 ≤ i
section
variable {w : World} {t m c y : Nat} {T : List Int} {d : Dv} {p b i l q k : Int} {n0 n1 : Nat}
theorem Bk.heads (B : Bk d b i l k n0 n1) (h : DevIs w t m c y T d) : Calls Try.prog 74 #[.pointer (some ⟨t, 0, none⟩), .agg #[.int .i64 p, .int .i64 b, .int .i64 i, .int .i64 l, .int .i64 q], .int .i64 k] w fun e w' => e = .returned (.tuple #[.int .i64 n0, .int .i64 n1, .int .i64 0]) ∧ Below w.heap.size w w' := by
  have := B.a0
  have := B.a1
  exact heads_any h B.dead p b i l q k B.b0 B.b1 (by omega) B.i1 (by omega) B.l1 (by have := B.fits; omega) B.e0 B.e1 (by omega) B.a0 (by omega) B.a1
set_option maxRecDepth 100000 in
set_option maxHeartbeats 8000000 in
theorem free_any (h : DevIs w t m c y T d) (B : Bk d b i l k n0 n1) : Calls Try.prog 39 #[.pointer (some ⟨t, 0, none⟩), gv p b i l q, .int .i64 k] w fun e w' => e = .returned (.tuple #[.int .i64 (l - n0), .int .i64 0]) ∧ Below w.heap.size w w' := by
  have hba : Below w.heap.size w (w.alloc (.cells #[.int .i64 p, .int .i64 b, .int .i64 i, .int .i64 l, .int .i64 q] 58)) := (Below.refl _ _).alloc (Nat.le_refl _) _
  have HBA := Lib.hid hba
  have CH := Lib.hid (B.heads (p := p) (q := q) (h.below hba))
  have HG := Lib.hid (GB.new w p b i l q)
  have l1 := B.l1
  have a0 := B.a0
  clear h B hba
  unfold gv
  go_enter Try.func39, Try.ntmps39
  go_wp2_with (go_at_call 74; refine (CH.out).mono ?_; rintro e w2 ⟨rfl, hb2⟩; have HB3 := Lib.hid (HBA.out.trans (hb2.mono HBA.out.size)); have g3 := (HG.out.below hb2).c3; clear hb2)
  go_ret2
  exact ⟨rfl, HB3.out⟩
set_option maxRecDepth 100000 in
set_option maxHeartbeats 8000000 in
theorem read_any (h : DevIs w t m c y T d) (B : Bk d b i l k n0 n1) : Calls Try.prog 37 #[.pointer (some ⟨t, 0, none⟩), gv p b i l q, .int .i64 k] w fun e w' => ∃ X cx Y cy, e = .returned (.tuple #[.slice X n1 cx, .slice Y n0 cy, .int .i64 0]) ∧ Words w' X n1 (wordsAt d (bankAt b k + 2) n1) ∧ Words w' Y n0 (wordsAt d (bankAt b k + 2 + i) n0) ∧ Below w.heap.size w w' := by
  have hba : Below w.heap.size w (w.alloc (.cells #[.int .i64 p, .int .i64 b, .int .i64 i, .int .i64 l, .int .i64 q] 58)) := (Below.refl _ _).alloc (Nat.le_refl _) _
  have HBA := Lib.hid hba
  have CH := Lib.hid (B.heads (p := p) (q := q) (h.below hba))
  have HG := Lib.hid (GB.new w p b i l q)
  have HD := Lib.hid h
  have HDD := Lib.hid B.dead
  have l1 := B.l1
  have a0 := B.a0
  have i1 := B.i1
  have a1 := B.a1
  have hft := B.fits
  have hx := bankAt_le (k := k) B.b0 B.b1
  have CI0 := fun w => imageat_any p b i l q k w B.b0 B.b1
  have CL0 := fun w => logat_any p b i l q k w B.b0 B.b1 (by omega) B.i1
  clear h B hba
  unfold gv at CI0 CL0 ⊢
  generalize bankAt b k = x at *
  have CI := Lib.hid CI0
  have CL := Lib.hid CL0
  clear CI0 CL0
  go_enter Try.func37, Try.ntmps37
  go_wp2_with (first
    | (go_at_call 74; refine (CH.out).mono ?_; rintro e w2 ⟨rfl, hb2⟩; have HB3 := Lib.hid (HBA.out.trans (hb2.mono HBA.out.size)); have HG2 := Lib.hid (HG.out.below hb2); have g0 := HG2.out.c0; have g1 := HG2.out.c1; have g2 := HG2.out.c2; have g3 := HG2.out.c3; have g4 := HG2.out.c4; clear hb2)
    | (go_at_call 76; refine (CI.out _).mono ?_; rintro e w3 ⟨rfl, hb3⟩; have HB4 := Lib.hid (HB3.out.trans (hb3.mono HB3.out.size)); have HG3 := Lib.hid (HG2.out.below hb3); clear hb3)
    | (go_at_call 71; refine (CL.out _).mono ?_; rintro e w5 ⟨rfl, hb5⟩; have HB6 := Lib.hid (HB5.out.trans (hb5.mono HB5.out.size)); have HW5 := Lib.hid (HW4.out.below hb5); clear hb5)
    | (go_at_call 75; first
      | (with_reducible refine (loadL_any (n := n1) (HD.out.below HB4.out) HDD.out (a := x + 2) (by omega) (by omega)).mono ?_; rintro e w4 ⟨X, cx, rfl, hW4, _, hb4⟩; have HW4 := Lib.hid hW4; have HB5 := Lib.hid (HB4.out.trans (hb4.mono HB4.out.size)); have HG4 := Lib.hid (HG3.out.below hb4); have f0 := HG4.out.c0; have f1 := HG4.out.c1; have f2 := HG4.out.c2; have f3 := HG4.out.c3; have f4 := HG4.out.c4; clear hb4 hW4)
      | (with_reducible refine (loadL_any (n := n0) (HD.out.below HB6.out) HDD.out (a := x + 2 + i) (by omega) (by omega)).mono ?_; rintro e w6 ⟨Y, cy, rfl, hW6, _, hb6⟩; have HW6 := Lib.hid hW6; have HB7 := Lib.hid (HB6.out.trans (hb6.mono HB6.out.size)); have HX6 := Lib.hid (HW5.out.below hb6); clear hb6 hW6)))
  go_ret3
  exact ⟨X, cx, Y, cy, rfl, HX6.out, HW6.out, HB7.out⟩
end
end Go.Proofs.Ytdnoniolpplgiaa
