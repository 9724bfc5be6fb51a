/- The first items of all paths: a contract (package diff). -/
import Derived.Test.YtdnmacehfbjiiaaBase
namespace Go.Proofs.Ytdnmacehfbjiiaa
open Go.RowKit Go.Maps Go.Sort Go.Shelf

def firstF (xs : List It) : Str → Option It := fun k => xs.find? (fun x => decide (x.p = k))
theorem firstF_same {xs : List It} {j : Nat} {x y : It} (h : xs[j]? = some x) (hy : firstF (xs.take j) x.p = some y) : firstF (xs.take (j + 1)) = firstF (xs.take j) := by
  funext k
  unfold firstF at *
  rw [take_snoc' h, List.find?_append]
  by_cases e : x.p = k
  · subst e; rw [hy]; rfl
  · simp [e]
theorem firstF_new {xs : List It} {j : Nat} {x : It} (h : xs[j]? = some x) (hn : firstF (xs.take j) x.p = none) : firstF (xs.take (j + 1)) = setI (firstF (xs.take j)) x.p x := by
  funext k
  unfold firstF setI at *
  rw [take_snoc' h, List.find?_append]
  by_cases e : x.p = k
  · subst e; rw [hn]; simp
  · have e2 : ¬ k = x.p := fun h => e h.symm
    simp [e, e2]
def tabL (xs : List It) : List Value := itV It.zero :: xs.map itV
theorem mem_tabL {xs : List It} {x : It} (h : x ∈ xs) : itV x ∈ tabL xs := List.mem_cons_of_mem _ (List.mem_map.2 ⟨x, h, rfl⟩)
theorem zero_tabL (xs : List It) : itV It.zero ∈ tabL xs := List.mem_cons_self
set_option maxRecDepth 100000 in
set_option maxHeartbeats 4000000 in
theorem first_any {w : World} {A : Option Addr} {n : Nat} {xs : List It} (c : Nat) (h : Items w A n xs) (hn : n ≤ 100000) : Calls Try.prog 16 #[.slice A n c] w fun e w' => e = .returned (.map (some w.heap.size)) ∧ MapI w' (tabL xs) w.heap.size n (firstF xs) ∧ Below w.heap.size w w' := by
  have H := Lib.hid h
  have hlen := h.1
  have hmm := @run_makeMap Try.prog
  clear h
  have HB0 := Lib.hid (show Below w.heap.size w (w.alloc (.map #[] 0)) from (Below.refl _ _).alloc (Nat.le_refl _) _)
  have HM0 := Lib.hid (MapI.made w (tabL xs))
  go_enter Try.func16, Try.ntmps16
  go_wp2
  go_loopw [11] (fun u wr => ∃ j : Nat, j ≤ n ∧ u = .int .i64 j ∧ MapI wr (tabL xs) w.heap.size j (firstF (xs.take j)) ∧ Below w.heap.size w wr) (fun u _ => n - (intOf u).toNat)
  case atStart => exact ⟨0, Nat.zero_le _, rfl, HM0.out, HB0.out⟩
  case round =>
    obtain ⟨j, hj, rfl, hM, hb⟩ := hrel
    have HM := Lib.hid hM
    have HB := Lib.hid hb
    clear hM hb
    by_cases hlt : j < n
    · obtain ⟨g, off, rfl, hgl, x, hxj, hG, c0, c1, c2, c3, c4⟩ := (H.out.below HB.out).at hlt
      have HG := Lib.hid hG
      have hx : x ∈ xs := List.mem_of_getElem? hxj
      have HXJ := Lib.hid hxj
      have HX := Lib.hid hx
      have hb1 : Below wr.heap.size wr (wr.alloc (.cells #[encStr x.p, .int .i64 x.ino, .int .i64 x.kind, .int .i64 x.size, .slice x.a x.n x.c] 29)) := (Below.refl _ _).alloc (Nat.le_refl _) _
      have hM1 := HM.out.below hb1
      have hlk := hM1.look (zero_tabL xs) hG.path
      clear hG hxj hx
      cases hf : firstF (xs.take j) x.p with
      | none =>
        rw [hf] at hlk
        simp only [Option.getD_none, Option.isSome_none, itV, itC, It.zero] at hlk
        have hb2 : Below wr.heap.size wr ((wr.alloc (.cells #[encStr x.p, .int .i64 x.ino, .int .i64 x.kind, .int .i64 x.size, .slice x.a x.n x.c] 29)).alloc (.cells #[encStr [], .int .i64 0, .int .i64 0, .int .i64 0, .slice none 0 0] 29)) := hb1.alloc hb1.size _
        obtain ⟨w3, hrun, hM3, ht⟩ := run_putI (HM.out.below hb2) (show j < maxLen by unfold maxLen; omega) HG.out.path (mem_tabL HX.out)
        simp only [itV, itC] at hrun
        have HM3 := Lib.hid (show MapI w3 (tabL xs) w.heap.size (j + 1) (firstF (xs.take (j + 1))) from by rw [firstF_new HXJ.out hf]; exact hM3)
        have HB3 := Lib.hid (show Below w.heap.size w w3 from (HB.out.trans (hb2.mono HB.out.size)).grown ht.grown (by have := hb2.size; have := HB.out.size; omega) (fun k hk => by cases hk; exact Nat.le_refl _))
        clear hM1 hM3 ht hb1 hb2 hf
        go_wp2
        go_roundw
        case rel => exact ⟨j + 1, by omega, by go_num, HM3.out, HB3.out⟩
        case measure => simp [intOf]; omega
      | some y =>
        rw [hf] at hlk
        simp only [Option.getD_some, Option.isSome_some, itV, itC] at hlk
        have hb2 : Below wr.heap.size wr ((wr.alloc (.cells #[encStr x.p, .int .i64 x.ino, .int .i64 x.kind, .int .i64 x.size, .slice x.a x.n x.c] 29)).alloc (.cells #[encStr y.p, .int .i64 y.ino, .int .i64 y.kind, .int .i64 y.size, .slice y.a y.n y.c] 29)) := hb1.alloc hb1.size _
        have HM3 := Lib.hid (show MapI _ (tabL xs) w.heap.size (j + 1) (firstF (xs.take (j + 1))) from by rw [firstF_same HXJ.out hf]; exact (HM.out.below hb2).mono (Nat.le_succ j))
        have HB3 := Lib.hid (HB.out.trans (hb2.mono HB.out.size))
        clear hM1 hb1 hb2 hf
        go_wp2
        go_roundw
        case rel => exact ⟨j + 1, by omega, by go_num, HM3.out, HB3.out⟩
        case measure => simp [intOf]; omega
    · obtain rfl : j = n := by omega
      have HTK := Lib.hid (show xs.take j = xs from by rw [← hlen]; exact List.take_length)
      rw [HTK.out] at HM
      go_wp2
      go_ret
      exact ⟨rfl, HM.out, HB.out⟩
end Go.Proofs.Ytdnmacehfbjiiaa
