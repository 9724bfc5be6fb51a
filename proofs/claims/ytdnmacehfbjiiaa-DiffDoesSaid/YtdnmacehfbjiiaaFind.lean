/- The first item of a path: a contract (package sumplaw41). -/
import Derived.Test.YtdnmacehfbjiiaaFirst
import Derived.Lib.BufferWrite
namespace Go.Proofs.Ytdnmacehfbjiiaa
open Go.RowKit Go.Maps Go.Sort Go.Shelf

/-- An item's box. -/
structure BX (w : World) (g : Nat) (x : It) : Prop where
  lt : g < w.heap.size
  c0 : w.cell? ⟨g, 0, none⟩ = some (encStr x.p)
  c1 : w.cell? ⟨g, 1, none⟩ = some (.int .i64 x.ino)
  c2 : w.cell? ⟨g, 2, none⟩ = some (.int .i64 x.kind)
  c3 : w.cell? ⟨g, 3, none⟩ = some (.int .i64 x.size)
  c4 : w.cell? ⟨g, 4, none⟩ = some (.slice x.a x.n x.c)
  fr : ∀ o, w.frozen? ⟨g, o, none⟩ = false
theorem BX.new (w : World) (x : It) : BX (w.alloc (.cells (itC x) 29)) w.heap.size x := by
  unfold itC
  exact ⟨by simp, by go_simp, by go_simp, by go_simp, by go_simp, by go_simp, fun o => by go_simp⟩
theorem BX.below {w w' : World} {g : Nat} {x : It} (h : BX w g x) (hb : Below w.heap.size w w') : BX w' g x :=
  ⟨Nat.lt_of_lt_of_le h.lt hb.size, (hb.cell h.lt).trans h.c0, (hb.cell h.lt).trans h.c1, (hb.cell h.lt).trans h.c2, (hb.cell h.lt).trans h.c3, (hb.cell h.lt).trans h.c4, fun o => (World.frozen?_of_block (a := ⟨g, o, none⟩) (hb.block _ h.lt)).trans (h.fr o)⟩
def set5 (w : World) (g : Nat) (x : It) : World := ((((w.setCell ⟨g, 0, none⟩ (encStr x.p)).setCell ⟨g, 1, none⟩ (.int .i64 x.ino)).setCell ⟨g, 2, none⟩ (.int .i64 x.kind)).setCell ⟨g, 3, none⟩ (.int .i64 x.size)).setCell ⟨g, 4, none⟩ (.slice x.a x.n x.c)
theorem set5_grown (w : World) (g : Nat) (x : It) : w.grownBy (set5 w g x) (some g) := by
  have s1 := Lib.grownBy_setCell w g 0 (encStr x.p)
  have s2 := s1.trans (Lib.grownBy_setCell (w.setCell ⟨g, 0, none⟩ (encStr x.p)) g 1 (.int .i64 x.ino))
  have s3 := s2.trans (Lib.grownBy_setCell ((w.setCell ⟨g, 0, none⟩ (encStr x.p)).setCell ⟨g, 1, none⟩ (.int .i64 x.ino)) g 2 (.int .i64 x.kind))
  have s4 := s3.trans (Lib.grownBy_setCell (((w.setCell ⟨g, 0, none⟩ (encStr x.p)).setCell ⟨g, 1, none⟩ (.int .i64 x.ino)).setCell ⟨g, 2, none⟩ (.int .i64 x.kind)) g 3 (.int .i64 x.size))
  exact s4.trans (Lib.grownBy_setCell ((((w.setCell ⟨g, 0, none⟩ (encStr x.p)).setCell ⟨g, 1, none⟩ (.int .i64 x.ino)).setCell ⟨g, 2, none⟩ (.int .i64 x.kind)).setCell ⟨g, 3, none⟩ (.int .i64 x.size)) g 4 (.slice x.a x.n x.c))
theorem bx_set5 {w : World} {g : Nat} {x : It} (h : BX w g x) (y : It) : BX (set5 w g y) g y := by
  have z0 := h.c0
  have z1 := h.c1
  have z2 := h.c2
  have z3 := h.c3
  have z4 := h.c4
  have fr := h.fr
  refine ⟨Nat.lt_of_lt_of_le h.lt (set5_grown w g y).size, ?_, ?_, ?_, ?_, ?_, fun o => ?_⟩
  all_goals unfold set5
  all_goals go_simp
theorem results_find (tm : Array Value) {w : World} {g : Nat} {x : It} (h : BX w g x) (y : Value) (h4 : tm[4]? = some (.pointer (some ⟨g, 0, none⟩))) (h5 : tm[5]? = some y) : (results Try.f9 tm).run Try.prog w = .ok (.tuple #[itV x, y]) w := by
  have e0 := h.c0
  have e1 := h.c1
  have e2 := h.c2
  have e3 := h.c3
  have e4 := h.c4
  simp [results, Try.results9, go_sem, itV, itC, e0, e1, e2, e3, e4, h4, h5]
set_option maxRecDepth 100000 in
set_option maxHeartbeats 4000000 in
theorem find_any {w : World} {A : Option Addr} {n : Nat} {xs : List It} (c : Nat) (h : Items w A n xs) (hn : n ≤ 100000) (p : Str) : Calls Try.prog 9 #[.slice A n c, encStr p] w fun e w' => e = .returned (.tuple #[itV ((firstF xs p).getD It.zero), .bool (firstF xs p).isSome]) ∧ Below w.heap.size w w' := by
  have H := Lib.hid h
  have hlen := h.1
  clear h
  have hb0 : Below w.heap.size w (w.alloc (.cells (itC It.zero) 29)) := (Below.refl _ _).alloc (Nat.le_refl _) _
  have HB0 := Lib.hid hb0
  have HX0 := Lib.hid (BX.new w It.zero)
  generalize hw0 : w.alloc (.cells (itC It.zero) 29) = w0 at *
  have HW0 := Lib.hid hw0
  clear hb0
  go_enter Try.func9, Try.ntmps9
  unfold itC It.zero at hw0
  go_wp2
  clear hw0 HW0
  go_loopw [10] (fun u wr => ∃ j : Nat, j ≤ n ∧ u = .int .i64 j ∧ firstF (xs.take j) p = none ∧ Below w0.heap.size w0 wr) (fun u _ => n - (intOf u).toNat)
  case atStart => exact ⟨0, Nat.zero_le _, rfl, rfl, Below.refl _ _⟩
  case round =>
    obtain ⟨j, hj, rfl, hno, hb⟩ := hrel
    have HB := Lib.hid hb
    have HNO := Lib.hid hno
    have HBX := Lib.hid (HX0.out.below hb)
    have HBW := Lib.hid (HB0.out.trans (hb.mono HB0.out.size))
    have z0 := HBX.out.c0
    have z1 := HBX.out.c1
    have z2 := HBX.out.c2
    have z3 := HBX.out.c3
    have z4 := HBX.out.c4
    have f0 := HBX.out.fr 0
    have f1 := HBX.out.fr 1
    have f2 := HBX.out.fr 2
    have f3 := HBX.out.fr 3
    have f4 := HBX.out.fr 4
    have zl := HBX.out.lt
    clear hb hno
    unfold It.zero at z0 z1 z2 z3 z4
    dsimp only at z0 z1 z2 z3 z4
    by_cases hlt : j < n
    · obtain ⟨g, off, rfl, hgl, x, hxj, hG, c0, c1, c2, c3, c4⟩ := (H.out.below HBW.out).at hlt
      have HXJ := Lib.hid hxj
      have hb1 : Below wr.heap.size wr (wr.alloc (.cells #[encStr x.p, .int .i64 x.ino, .int .i64 x.kind, .int .i64 x.size, .slice x.a x.n x.c] 29)) := (Below.refl _ _).alloc (Nat.le_refl _) _
      have HB1 := Lib.hid (HB.out.trans (hb1.mono HB.out.size))
      clear hG hxj hb1
      by_cases e : x.p = p
      · have hq : (x.p == p) = true := by simpa using e
        have HF := Lib.hid (show firstF xs p = some x from by
          have h1 : firstF (xs.take (j + 1)) p = some x := by
            unfold firstF at *
            rw [take_snoc' HXJ.out, List.find?_append, HNO.out]
            simp [e]
          unfold firstF at *
          conv => lhs; rw [← List.take_append_drop (j + 1) xs]
          rw [List.find?_append, h1]
          rfl)
        have HG := Lib.hid ((bx_set5 HBX.out x).below ((Below.refl _ _).alloc (Nat.le_refl _) (.cells #[encStr x.p, .int .i64 x.ino, .int .i64 x.kind, .int .i64 x.size, .slice x.a x.n x.c] 29)))
        have HK := Lib.hid (show Below w.heap.size w ((set5 wr w.heap.size x).alloc (.cells #[encStr x.p, .int .i64 x.ino, .int .i64 x.kind, .int .i64 x.size, .slice x.a x.n x.c] 29)) from
          (HBW.out.grown (set5_grown wr w.heap.size x) HBW.out.size (fun k hk => by cases hk; exact Nat.le_refl _)).alloc (Nat.le_trans HBW.out.size (set5_grown wr w.heap.size x).size) _)
        unfold set5 at HG HK
        clear e
        go_wp2
        refine bodyPost_ret (results_find _ HG.out _ rfl rfl) rfl ⟨?_, HK.out⟩
        rw [HF.out]
        rfl
      · have hq : (x.p == p) = false := by simpa using e
        have HN := Lib.hid (show firstF (xs.take (j + 1)) p = none from by
          have hn2 := HNO.out
          unfold firstF at *
          rw [take_snoc' HXJ.out, List.find?_append, hn2]
          simp [e])
        clear e
        go_wp2
        go_roundw
        case rel => exact ⟨j + 1, by omega, by go_num, HN.out, HB1.out⟩
        case measure => simp [intOf]; omega
    · obtain rfl : j = n := by omega
      have HF := Lib.hid (show firstF xs p = none from by
        have h1 := HNO.out
        rw [show xs.take j = xs from by rw [← hlen]; exact List.take_length] at h1
        exact h1)
      have HG := Lib.hid (bx_set5 HBX.out It.zero)
      have HK := Lib.hid (show Below w.heap.size w (set5 wr w.heap.size It.zero) from HBW.out.grown (set5_grown wr w.heap.size It.zero) HBW.out.size (fun k hk => by cases hk; exact Nat.le_refl _))
      unfold set5 It.zero at HG HK
      dsimp only at HG HK
      go_wp2
      refine bodyPost_ret (results_find _ HG.out _ rfl rfl) rfl ⟨?_, HK.out⟩
      rw [HF.out]
      rfl
end Go.Proofs.Ytdnmacehfbjiiaa
