/- What is appended to a bank's log: the function's contract (package bank). -/
import Derived.Test.YtdnoniolpplgiaaMakeG
import Derived.Test.YtdnoniolpplgiaaApp1
import Derived.Test.YtdnoniolpplgiaaApp2
namespace Go.Proofs.Ytdnoniolpplgiaa
open Go.RowKit Go.Maps Go.Sort Go.Shelf
section
variable {w : World} {t m c y bd bg bk bl bt s n cap N : Nat} {T : List Int} {d : Dv} {p b i l q k tl : Int} {A : Option Addr} {xs : List Int}
theorem app_first (h : EX w w t m c y T d N) (hC : CB w [t, m, c, y] bd bg bk bl t p b i l q k A n cap) (hW : Words w A n xs) (hA : xs ≠ [] → ∀ a, A = some a → a.block ∉ [t, m, c, y]) (b0 : 0 ≤ b) (b1 : b ≤ 131072) (i0 : 0 ≤ i) (i1 : i ≤ 5000000) (ht : w.cell? ⟨bt, 0, none⟩ = some (.int .i64 tl)) (btl : bt < w.heap.size) (bto : bt ∉ [t, m, c, y]) (tl0 : 0 ≤ tl) (tl1 : tl ≤ 5000000) (hn : n ≤ 5000) (hN : N ≤ 20000)
    (h0 : w.cell? ⟨s, 0, none⟩ = some (.func (.func 70) #[] #[.pointer (some ⟨bd, 0, none⟩), .pointer (some ⟨bg, 0, none⟩), .pointer (some ⟨bk, 0, none⟩), .pointer (some ⟨bt, 0, none⟩), .pointer (some ⟨bl, 0, none⟩)]))
    (h1 : w.cell? ⟨s, 1, none⟩ = some (.func (.func 72) #[] #[.pointer (some ⟨bd, 0, none⟩), .pointer (some ⟨bg, 0, none⟩), .pointer (some ⟨bk, 0, none⟩), .pointer (some ⟨bt, 0, none⟩), .pointer (some ⟨bl, 0, none⟩)]))
    (hl : s < w.heap.size) (hs : s ∉ [t, m, c, y]) :
    Calls Try.prog 69 #[.slice (some ⟨s, 0, none⟩) 2 2] w fun e w' => ∃ T' r, e = .returned (.int .i64 r.1) ∧ Lay2 d (bankAt b k + 2 + i + tl) xs (bankAt b k) [tl + (n : Int)] r ∧ EX w w' t m c y T' r.2 (N + 2 * n + 22) := by
  refine (first_app (R1 := fun w1 => ∃ T1 r1, r1.1 = 0 ∧ LayIs d (bankAt b k + 2 + i + tl) xs r1 ∧ EX w w1 t m c y T1 r1.2 (N + 2 * n + 10))
    (R2 := fun w2 => ∃ T' r, r.1 = 0 ∧ Lay2 d (bankAt b k + 2 + i + tl) xs (bankAt b k) [tl + (n : Int)] r ∧ EX w w2 t m c y T' r.2 (N + 2 * n + 22))
    (E := fun er w2 => ∃ T' r, r.1 = er ∧ Lay2 d (bankAt b k + 2 + i + tl) xs (bankAt b k) [tl + (n : Int)] r ∧ EX w w2 t m c y T' r.2 (N + 2 * n + 22)) h0 ?_ ?_ ?_).mono ?_
  · rintro w1 ⟨T1, r1, _, _, hE⟩
    exact (hE.kept.cell (a := ⟨s, 1, none⟩) hl hs).trans h1
  · refine (app1_any h hC hW hA b0 b1 i0 i1 ht btl bto tl0 tl1 hn (by omega)).mono ?_
    rintro e w1 ⟨T1, r1, rfl, hL, hE⟩
    exact ⟨r1.1, rfl, fun hz => ⟨T1, r1, hz, hL, hE⟩, fun hz => ⟨T1, r1, rfl, ⟨r1, hL, .inl ⟨hz, rfl⟩⟩, hE.mono (by omega)⟩⟩
  · rintro w1 ⟨T1, r1, hz, hL, hE⟩
    have hE1 : EX w1 w1 t m c y T1 r1.2 (N + 2 * n + 10) := ⟨hE.dev, hE.t64, hE.few, Kept.refl _ _⟩
    refine (app2_any hE1 (hC.kept hE.kept) b0 b1 ((hE.kept.cell (a := ⟨bt, 0, none⟩) btl bto).trans ht) (Nat.lt_of_lt_of_le btl hE.kept.size) bto tl0 tl1 hn (by omega)).mono ?_
    rintro e w2 ⟨T2, r2, rfl, hL2, hE2⟩
    have hE3 : EX w w2 t m c y T2 r2.2 (N + 2 * n + 22) := ⟨hE2.dev, hE2.t64, by have := hE2.few; omega, hE.kept.trans hE2.kept⟩
    exact ⟨r2.1, rfl, fun hz2 => ⟨T2, r2, hz2, ⟨r1, hL, .inr ⟨hz, hL2⟩⟩, hE3⟩, fun _ => ⟨T2, r2, rfl, ⟨r1, hL, .inr ⟨hz, hL2⟩⟩, hE3⟩⟩
  · rintro e w2 ⟨er, rfl, hz, hn⟩
    by_cases he : er = 0
    · obtain ⟨T', r, hr, hM, hE⟩ := hz he
      exact ⟨T', r, by rw [hr, he], hM, hE⟩
    · obtain ⟨T', r, hr, hM, hE⟩ := hn he
      exact ⟨T', r, by rw [hr], hM, hE⟩
theorem app_call (h : EX w w t m c y T d N) (cap : Nat) (hW : Words w A n xs) (hA : xs ≠ [] → ∀ a, A = some a → a.block ∉ [t, m, c, y]) (b0 : 0 ≤ b) (b1 : b ≤ 131072) (i0 : 0 ≤ i) (i1 : i ≤ 5000000) (tl0 : 0 ≤ tl) (tl1 : tl ≤ 5000000) (hn : n ≤ 5000) (hN : N ≤ 20000)
    {w2 : World} (hb2 : Below (wBox w t n cap p b i l q k A).heap.size (wBox w t n cap p b i l q k A) w2) :
    Calls Try.prog 69 #[.slice (some ⟨w2.heap.size + 1, 0, none⟩) 2 2] ((w2.alloc (.cells #[.int .i64 tl] 3)).alloc (.cells #[.func (.func 70) #[] #[.pointer (some ⟨w.heap.size, 0, none⟩), .pointer (some ⟨w.heap.size + 1, 0, none⟩), .pointer (some ⟨w.heap.size + 2, 0, none⟩), .pointer (some ⟨w2.heap.size, 0, none⟩), .pointer (some ⟨w.heap.size + 3, 0, none⟩)], .func (.func 72) #[] #[.pointer (some ⟨w.heap.size, 0, none⟩), .pointer (some ⟨w.heap.size + 1, 0, none⟩), .pointer (some ⟨w.heap.size + 2, 0, none⟩), .pointer (some ⟨w2.heap.size, 0, none⟩), .pointer (some ⟨w.heap.size + 3, 0, none⟩)]] 34))
      fun e w' => ∃ T' r, e = .returned (.int .i64 r.1) ∧ Lay2 d (bankAt b k + 2 + i + tl) xs (bankAt b k) [tl + (n : Int)] r ∧ EX w w' t m c y T' r.2 (N + 2 * n + 22) := by
  have hlt := h.dev.lt
  have hz := wBox_size w t n cap p b i l q k A
  have hz2 := hb2.size
  have hb0 : Below w.heap.size w w2 := (wBox_below w t n cap p b i l q k A).trans (hb2.mono (wBox_below w t n cap p b i l q k A).size)
  have hba : ∀ v v', Below w2.heap.size w2 ((w2.alloc v).alloc v') := fun v v' => ((Below.refl _ _).alloc (Nat.le_refl _) v).alloc (by simp) v'
  have hbw : ∀ v v', Below w.heap.size w ((w2.alloc v).alloc v') := fun v v' => hb0.trans ((hba v v').mono hb0.size)
  have hC := (cb_new (n := n) (cap := cap) (p := p) (b := b) (i := i) (l := l) (q := q) (k := k) (A := A) hlt).below hb2
  have hlz : ∀ v v', ((w2.alloc v).alloc v').heap.size = w2.heap.size + 2 := fun v v' => by simp
  have hno : ∀ j, w2.heap.size + j ∉ [t, m, c, y] := fun j hm => by have := hlt _ hm; omega
  have hn0 : ∀ (f0 f1 : Value), ((w2.alloc (.cells #[.int .i64 tl] 3)).alloc (.cells #[f0, f1] 34)).cell? ⟨w2.heap.size + 1, 0, none⟩ = some f0 := fun f0 f1 => by go_simp
  have hn1 : ∀ (f0 f1 : Value), ((w2.alloc (.cells #[.int .i64 tl] 3)).alloc (.cells #[f0, f1] 34)).cell? ⟨w2.heap.size + 1, 1, none⟩ = some f1 := fun f0 f1 => by go_simp
  have hnt : ∀ (f0 f1 : Value), ((w2.alloc (.cells #[.int .i64 tl] 3)).alloc (.cells #[f0, f1] 34)).cell? ⟨w2.heap.size, 0, none⟩ = some (.int .i64 tl) := fun f0 f1 => by go_simp
  refine (app_first (h.at_ (hbw _ _)) (hC.below (hba _ _)) (hW.below (hbw _ _)) hA b0 b1 i0 i1 (hnt _ _) (by rw [hlz]; omega) (hno 0) tl0 tl1 hn hN (hn0 _ _) (hn1 _ _) (by rw [hlz]; omega) (hno 1)).mono ?_
  rintro e w' ⟨T', r, rfl, hL, hE⟩
  exact ⟨T', r, rfl, hL, EX.from_ (hbw _ _) hE⟩
set_option maxRecDepth 100000 in
set_option maxHeartbeats 8000000 in
theorem app_no {n0 n1 : Nat} (h : DevIs w t m c y T d) (B : Bk d b i l k n0 n1) (hi : l - n0 < n) : Calls Try.prog 36 #[.pointer (some ⟨t, 0, none⟩), gv p b i l q, .int .i64 k, .slice A n cap] w fun e w' => e = .returned (.int .i64 28) ∧ Below w.heap.size w w' := by
  have HB := Lib.hid (wBox_below w t n cap p b i l q k A)
  have CF := Lib.hid (free_any (p := p) (q := q) (h.below HB.out) B)
  have CB3 := Lib.hid (fun w2 (hb : Below _ _ w2) => (cb_new (n := n) (cap := cap) (p := p) (b := b) (i := i) (l := l) (q := q) (k := k) (A := A) h.lt).below hb)
  clear h B
  unfold wBox at HB CF CB3
  unfold gv at *
  go_enter Try.func36, Try.ntmps36
  go_wp2_with (go_at_call 39; refine (CF.out).mono ?_; rintro e w2 ⟨rfl, hb2⟩; have s3 := (CB3.out w2 hb2).l0; have HB2 := Lib.hid (HB.out.trans (hb2.mono HB.out.size)); clear hb2)
  go_ret
  exact ⟨rfl, HB2.out⟩
set_option maxRecDepth 100000 in
set_option maxHeartbeats 8000000 in
theorem app_any {n0 n1 : Nat} (h : EX w w t m c y T d N) (B : Bk d b i l k n0 n1) (cap : Nat) (hW : Words w A n xs) (hA : xs ≠ [] → ∀ a, A = some a → a.block ∉ [t, m, c, y]) (hi : n ≤ l - n0) (i0 : 0 ≤ i) (hn : n ≤ 5000) (hN : N ≤ 20000) :
    Calls Try.prog 36 #[.pointer (some ⟨t, 0, none⟩), gv p b i l q, .int .i64 k, .slice A n cap] w fun e w' => ∃ T' r, e = .returned (.int .i64 r.1) ∧ Lay2 d (bankAt b k + 2 + i + n0) xs (bankAt b k) [(n0 : Int) + (n : Int)] r ∧ EX w w' t m c y T' r.2 (N + 2 * n + 22) := by
  have hbw := wBox_below w t n cap p b i l q k A
  have CF := Lib.hid (free_any (p := p) (q := q) (h.dev.below hbw) B)
  have CB3 := Lib.hid (fun w2 (hb : Below _ _ w2) => (cb_new (n := n) (cap := cap) (p := p) (b := b) (i := i) (l := l) (q := q) (k := k) (A := A) h.dev.lt).below hb)
  have CA := Lib.hid (fun w2 => app_call (p := p) (l := l) (q := q) (k := k) (tl := (n0 : Int)) h cap hW hA B.b0 B.b1 i0 B.i1 (by omega) (by have := B.a0; have := B.l1; omega) hn hN (w2 := w2))
  have l1 := B.l1
  have a0 := B.a0
  have hw : IntKind.i64.wrap (l - (l - (n0 : Int))) = (n0 : Int) := by rw [show l - (l - (n0 : Int)) = n0 by omega]; exact IntWalk.i64_in _ (by omega)
  clear h B hbw hW hA
  unfold wBox at CF CA CB3
  unfold gv at *
  have hmf : ∀ (fn : Fn) (first cap : Array Value) (w : World), (Instr.makeFunc fn first cap).run Try.prog w = .ok (.func fn first cap) w := fun _ _ _ _ => rfl
  go_enter Try.func36, Try.ntmps36
  go_wp2_with (first
    | (go_at_call 39; refine (CF.out).mono ?_; rintro e w2 ⟨rfl, hb2⟩; have s3 := (CB3.out w2 hb2).l0; have s1 := (CB3.out w2 hb2).g.c3; have HB2 := Lib.hid hb2; clear hb2)
    | (go_at_call 69; refine (CA.out w2 HB2.out).mono ?_; rintro e w3 ⟨T', r, rfl, hL, hE⟩; have HL := Lib.hid hL; have HE := Lib.hid hE; clear hL hE))
  go_ret
  exact ⟨T', r, rfl, HL.out, HE.out⟩
end
end Go.Proofs.Ytdnoniolpplgiaa
