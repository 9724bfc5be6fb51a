/- A bank's heads, and what is read of it: contracts (package bank). -/
import Derived.Test.YtdnoniolpplgiaaLoad
import Derived.Test.YtdnoniolpplgiaaWords
namespace Go.Proofs.Ytdnoniolpplgiaa
open Go.RowKit Go.Maps Go.Sort Go.Shelf

theorem words_two {w : World} {A : Option Addr} {n : Nat} {x0 x1 : Int} (h : Words w A n [x0, x1]) : ∃ g off, A = some ⟨g, off, none⟩ ∧ g < w.heap.size ∧ w.cell? ⟨g, off, none⟩ = some (.int .u64 x0) ∧ w.cell? ⟨g, off + 1, none⟩ = some (.int .u64 x1) := by
  rcases h.2 with h2 | ⟨b, off, rfl, hl, hc⟩
  · cases h2
  · exact ⟨b, off, rfl, hl, hc 0 (by simp), hc 1 (by simp)⟩
set_option maxRecDepth 100000 in
set_option maxHeartbeats 8000000 in
theorem heads_any {w : World} {t m c y : Nat} {T : List Int} {d : Dv} (h : DevIs w t m c y T d) (hd : d.dead = false) (p b i l q k : Int) (h0 : 0 ≤ b) (h1 : b ≤ 131072) (i0 : 0 ≤ i) (i1 : i ≤ 5000000) (l0 : 0 ≤ l) (l1 : l ≤ 5000000) (hn : bankAt b k + 2 ≤ d.n) {x0 x1 : Int} (e0 : d.holds (bankAt b k) = x0) (e1 : d.holds (bankAt b k + 1) = x1) (a0 : 0 ≤ x0) (a1 : x0 ≤ l) (b0 : 0 ≤ x1) (b1 : x1 ≤ i) :
    Calls Try.prog 74 #[.pointer (some ⟨t, 0, none⟩), gv p b i l q, .int .i64 k] w fun e w' => e = .returned (.tuple #[.int .i64 x0, .int .i64 x1, .int .i64 0]) ∧ Below w.heap.size w w' := by
  have H := Lib.hid h
  have HD := Lib.hid hd
  have hx := bankAt_le (k := k) h0 h1
  have CB0 := fun w => bankat_any p b i l q k w h0 h1
  have HW := Lib.hid (show wordsAt d (bankAt b k) 2 = [x0, x1] from by
    rw [show (2 : Nat) = 0 + 1 + 1 from rfl, wordsAt_succ, wordsAt_succ, show wordsAt d (bankAt b k) 0 = [] from rfl]
    rw [show bankAt b k + ((0 : Nat) : Int) = bankAt b k by omega, show bankAt b k + ((0 + 1 : Nat) : Int) = bankAt b k + 1 by omega, e0, e1]; rfl)
  unfold gv at CB0 ⊢
  generalize bankAt b k = x at *
  have CB := Lib.hid CB0
  have g1 : ¬ l < x0 := by omega
  have g2 : ¬ i < x1 := by omega
  have hm1 : max l 0 = l := by omega
  have hm2 : max i 0 = i := by omega
  clear h hd CB0 e0 e1
  go_enter Try.func74, Try.ntmps74
  have hba : Below w.heap.size w (w.alloc (.cells #[.int .i64 p, .int .i64 b, .int .i64 i, .int .i64 l, .int .i64 q] 58)) := (Below.refl _ _).alloc (Nat.le_refl _) _
  have HBA := Lib.hid hba
  clear hba
  go_upto_region 4 with (first
    | (go_at_call 73; refine (CB.out _).mono ?_; rintro e w2 ⟨rfl, hb2⟩; have HB3 := Lib.hid (HBA.out.trans (hb2.mono HBA.out.size)); have hlt2 : w.heap.size < w2.heap.size := Nat.lt_of_lt_of_le (by simp) hb2.size; have hq : w2.cell? ⟨w.heap.size, 3, none⟩ = some (.int .i64 l) := (hb2.cell (by simp)).trans (by go_simp); have hr : w2.cell? ⟨w.heap.size, 2, none⟩ = some (.int .i64 i) := (hb2.cell (by simp)).trans (by go_simp); clear hb2)
    | (go_at_call 75; refine (loadL_any (n := 2) (H.out.below HB3.out) HD.out (by omega) (by omega)).mono ?_; rintro e w4 ⟨X, cc, rfl, hWW, _, hb4⟩; rw [HW.out] at hWW; have HB5 := Lib.hid (HB3.out.trans (hb4.mono HB3.out.size)); have hq2 : w4.cell? ⟨w.heap.size, 3, none⟩ = some (.int .i64 l) := (hb4.cell hlt2).trans hq; have hr2 : w4.cell? ⟨w.heap.size, 2, none⟩ = some (.int .i64 i) := (hb4.cell hlt2).trans hr; obtain ⟨gb, go, rfl, hgl, cc0, cc1⟩ := words_two hWW; clear hb4 hWW))
  have hwl : IntKind.u64.wrap l = l := IntWalk.u64_in _ (by omega)
  have hwi : IntKind.u64.wrap i = i := IntWalk.u64_in _ (by omega)
  have hwx0 : IntKind.i64.wrap x0 = x0 := IntWalk.i64_in _ (by omega)
  have hwx1 : IntKind.i64.wrap x1 = x1 := IntWalk.i64_in _ (by omega)
  have hdec : decide (l < x0) = false := by simp; omega
  have hdec2 : decide (i < x1) = false := by simp; omega
  go_region_held3 (fun w' => w'.cell? ⟨w.heap.size, 3, none⟩ = some (.int .i64 l) ∧ w'.cell? ⟨w.heap.size, 2, none⟩ = some (.int .i64 i) ∧ w'.cell? ⟨gb, go, none⟩ = some (.int .u64 x0) ∧ w'.cell? ⟨gb, go + 1, none⟩ = some (.int .u64 x1))
    (first | go_keep | exact ⟨by assumption, by assumption, by assumption, by assumption⟩)
    (fail)
  go_upto_region 6 with fail
  go_region_held3 (fun w' => w'.cell? ⟨gb, go, none⟩ = some (.int .u64 x0) ∧ w'.cell? ⟨gb, go + 1, none⟩ = some (.int .u64 x1))
    (first | go_keep | exact ⟨by assumption, by assumption⟩)
    (fail)
  go_wp2
  go_ret3
  exact ⟨rfl, HB5.out.drew.drew⟩
end Go.Proofs.Ytdnoniolpplgiaa
