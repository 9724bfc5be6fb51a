/- A device that is formatted, a bank that is made: contracts (package bank). -/
import Derived.Test.YtdnoniolpplgiaaRoot
import Derived.Test.YtdnoniolpplgiaaRead
namespace Go.Proofs.Ytdnoniolpplgiaa
open Go.RowKit Go.Maps Go.Sort Go.Shelf

theorem words_new2 (w : World) (x y : Int) : Words (w.alloc (.cells #[.int .u64 x, .int .u64 y] 28)) (some ⟨w.heap.size, 0, none⟩) 2 [x, y] := by
  have h0 : (w.alloc (.cells #[.int .u64 x, .int .u64 y] 28)).cell? ⟨w.heap.size, 0, none⟩ = some (.int .u64 x) := by go_simp
  have h1 : (w.alloc (.cells #[.int .u64 x, .int .u64 y] 28)).cell? ⟨w.heap.size, 1, none⟩ = some (.int .u64 y) := by go_simp
  refine ⟨rfl, .inr ⟨w.heap.size, 0, rfl, by simp, fun i hi => ?_⟩⟩
  have hi' : i < 2 := hi
  rcases (show i = 0 ∨ i = 1 by omega) with rfl | rfl
  · exact h0
  · exact h1
section
variable {w : World} {t m c y : Nat} {T : List Int} {d : Dv} {N : Nat}
set_option maxRecDepth 100000 in
set_option maxHeartbeats 8000000 in
theorem format_any (h : EX w w t m c y T d N) (p b i l q : Int) (p0 : 0 ≤ p) (p1 : p ≤ 1048576) (hN : N ≤ 40000) : Calls Try.prog 68 #[.pointer (some ⟨t, 0, none⟩), gv p b i l q] w fun en w' => ∃ T' r, en = .returned (.int .i64 r.1) ∧ LayIs d 0 [1937075568, p] r ∧ EX w w' t m c y T' r.2 (N + 14) := by
  have hdl := h.dev.lt
  have hb1 : Below w.heap.size w (w.alloc (.cells #[.int .i64 p, .int .i64 b, .int .i64 i, .int .i64 l, .int .i64 q] 58)) := (Below.refl _ _).alloc (Nat.le_refl _) _
  have hba : Below w.heap.size w ((w.alloc (.cells #[.int .i64 p, .int .i64 b, .int .i64 i, .int .i64 l, .int .i64 q] 58)).alloc (.cells #[.int .u64 1937075568, .int .u64 p] 28)) := hb1.alloc hb1.size _
  have HBA := Lib.hid hba
  have CLY := Lib.hid (lay_any (h.at_ hba) (A := some ⟨(w.alloc (.cells #[.int .i64 p, .int .i64 b, .int .i64 i, .int .i64 l, .int .i64 q] 58)).heap.size, 0, none⟩) (n := 2) (xs := [1937075568, p]) 2 (words_new2 _ 1937075568 p) (fun _ a ha hm => by cases ha; have h1 := hdl _ hm; have h2 := hb1.size; exact Nat.lt_irrefl _ (Nat.lt_of_lt_of_le h1 h2)) (at_ := 0) (by omega) (by omega) (by omega) hN)
  have hwp : IntKind.u64.wrap p = p := IntWalk.u64_in _ (by omega)
  rw [show (w.alloc (.cells #[.int .i64 p, .int .i64 b, .int .i64 i, .int .i64 l, .int .i64 q] 58)).heap.size = w.heap.size + 1 by simp] at CLY
  clear h hba hdl hb1
  unfold gv
  go_enter Try.func68, Try.ntmps68
  go_wp2_with (go_at_call 43; refine (CLY.out).mono ?_; rintro e w3 ⟨T', r, rfl, hL, hE⟩; have HL := Lib.hid hL; have HE := Lib.hid (EX.from_ HBA.out hE); clear hL hE)
  go_ret
  exact ⟨T', r, rfl, HL.out, HE.out⟩
end
end Go.Proofs.Ytdnoniolpplgiaa
