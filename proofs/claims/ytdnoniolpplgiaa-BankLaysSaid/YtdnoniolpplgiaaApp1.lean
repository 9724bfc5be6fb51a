/- What appending calls first: its closure's contract (package bank). -/
import Derived.Test.YtdnoniolpplgiaaMake1
namespace Go.Proofs.Ytdnoniolpplgiaa
open Go.RowKit Go.Maps Go.Sort Go.Shelf
section
variable {w : World} {t m c y bd bg bk bl bt n cap N : Nat} {T : List Int} {d : Dv} {p b i l q k tl : Int} {A : Option Addr} {xs : List Int}
set_option maxRecDepth 100000 in
set_option maxHeartbeats 8000000 in
theorem app1_any (h : EX w w t m c y T d N) (hC : CB w [t, m, c, y] bd bg bk bl t p b i l q k A n cap) (hW : Words w A n xs) (hA : xs ≠ [] → ∀ a, A = some a → a.block ∉ [t, m, c, y]) (b0 : 0 ≤ b) (b1 : b ≤ 131072) (i0 : 0 ≤ i) (i1 : i ≤ 5000000) (ht : w.cell? ⟨bt, 0, none⟩ = some (.int .i64 tl)) (btl : bt < w.heap.size) (bto : bt ∉ [t, m, c, y]) (tl0 : 0 ≤ tl) (tl1 : tl ≤ 5000000) (hn : n ≤ 5000) (hN : N ≤ 40000) : Calls Try.prog 70 #[.pointer (some ⟨bd, 0, none⟩), .pointer (some ⟨bg, 0, none⟩), .pointer (some ⟨bk, 0, none⟩), .pointer (some ⟨bt, 0, none⟩), .pointer (some ⟨bl, 0, none⟩)] w fun e w' => ∃ T' r, e = .returned (.int .i64 r.1) ∧ LayIs d (bankAt b k + 2 + i + tl) xs r ∧ EX w w' t m c y T' r.2 (N + 2 * n + 10) := by
  have H := Lib.hid h
  have HC := Lib.hid hC
  have HW := Lib.hid hW
  have HA := Lib.hid hA
  have HT := Lib.hid ht
  have HBL := Lib.hid btl
  have HBO := Lib.hid bto
  have z1 := hC.d0
  have y0 := hC.g.c0
  have y1 := hC.g.c1
  have y2 := hC.g.c2
  have y3 := hC.g.c3
  have y4 := hC.g.c4
  have z2 := hC.k0
  have z3 := hC.l0
  have hx := bankAt_le (k := k) b0 b1
  have CI0 := fun w => logat_any p b i l q k w b0 b1 i0 i1
  unfold gv at CI0
  generalize bankAt b k = x at *
  have CI := Lib.hid CI0
  have HDR := Lib.hid (show Below w.heap.size w w.drew from (Below.refl _ _).drew)
  clear h hC hW hA CI0 btl bto
  have hwr : IntKind.i64.wrap (x + 2 + i + tl) = x + 2 + i + tl := IntWalk.i64_in _ (by omega)
  go_enter Try.func70, Try.ntmps70
  go_upto_region 1 with fail
  go_region_held3 (fun w' => w'.cell? ⟨bd, 0, none⟩ = some (.pointer (some ⟨t, 0, none⟩)) ∧ w'.cell? ⟨bg, 0, none⟩ = some (.int .i64 p) ∧ w'.cell? ⟨bg, 1, none⟩ = some (.int .i64 b) ∧ w'.cell? ⟨bg, 2, none⟩ = some (.int .i64 i) ∧ w'.cell? ⟨bg, 3, none⟩ = some (.int .i64 l) ∧ w'.cell? ⟨bg, 4, none⟩ = some (.int .i64 q) ∧ w'.cell? ⟨bk, 0, none⟩ = some (.int .i64 k) ∧ w'.cell? ⟨bt, 0, none⟩ = some (.int .i64 tl) ∧ w'.cell? ⟨bl, 0, none⟩ = some (.slice A n cap))
    (first | go_keep | exact ⟨by assumption, by assumption, by assumption, by assumption, by assumption, by assumption, by assumption, by assumption, by assumption⟩)
    ((first
      | (go_at_call 71; refine (CI.out _).mono ?_; rintro e w2 ⟨rfl, hb2⟩; have HB2 := Lib.hid (HDR.out.trans (hb2.mono HDR.out.size)); have HC2 := Lib.hid (HC.out.below HB2.out); have u1 := HC2.out.d0; have v0 := HC2.out.g.c0; have v1 := HC2.out.g.c1; have v2 := HC2.out.g.c2; have v3 := HC2.out.g.c3; have v4 := HC2.out.g.c4; have u2 := HC2.out.k0; have u3 := HC2.out.l0; have u5 : w2.cell? ⟨bt, 0, none⟩ = some (.int .i64 tl) := (HB2.out.cell HBL.out).trans HT.out; clear hb2)
      | (go_at_call 43; refine (lay_any (H.out.at_ HB2.out) cap (HW.out.below HB2.out) HA.out (at_ := x + 2 + i + tl) (by omega) (by omega) hn hN).mono ?_; rintro e w3 ⟨T', r, rfl, hL, hE⟩; have HL := Lib.hid hL; have HC3 := Lib.hid (HC2.out.kept hE.kept); have s1 := HC3.out.d0; have r0 := HC3.out.g.c0; have r1 := HC3.out.g.c1; have r2 := HC3.out.g.c2; have r3 := HC3.out.g.c3; have r4 := HC3.out.g.c4; have s2 := HC3.out.k0; have s3 := HC3.out.l0; have s5 : w3.cell? ⟨bt, 0, none⟩ = some (.int .i64 tl) := (hE.kept.cell (a := ⟨bt, 0, none⟩) (Nat.lt_of_lt_of_le HBL.out HB2.out.size) HBO.out).trans u5; have HE := Lib.hid (EX.from_ HB2.out hE); clear hL hE)))
  go_wp2
  go_ret
  exact ⟨T', r, rfl, HL.out, HE.out⟩
end
end Go.Proofs.Ytdnoniolpplgiaa
