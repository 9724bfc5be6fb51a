/- Words that are read off a device: contracts (package bank). -/
import Derived.Test.YtdnoniolpplgiaaLay
import Derived.Test.YtdnoniolpplgiaaOnly2
import Derived.Test.YtdnoniolpplgiaaGeom
import Derived.Maps.AppendAt
namespace Go.Proofs.Ytdnoniolpplgiaa
open Go.RowKit Go.Maps Go.Sort Go.Shelf

def wordsAt (d : Dv) (a : Int) (n : Nat) : List Int := (List.range n).map (fun j : Nat => d.holds (a + j))
theorem wordsAt_succ (d : Dv) (a : Int) (n : Nat) : wordsAt d a (n + 1) = wordsAt d a n ++ [d.holds (a + n)] := by
  unfold wordsAt
  rw [List.range_succ, List.map_append]; rfl
theorem wordsAt_len (d : Dv) (a : Int) (n : Nat) : (wordsAt d a n).length = n := by
  unfold wordsAt
  rw [List.length_map, List.length_range]
theorem words_of_row {w : World} {base n c : Nat} {X : Option Addr} {zs : List Int} (hl : zs.length = n) (h : w.ownsRow base 28 1 (.slice X n c) n (zs.map (Value.int .u64))) : Words w X n zs := by
  refine ⟨hl, ?_⟩
  rcases h.2 with ⟨_, h0⟩ | ⟨g, cap, cur, e, _⟩
  · left; exact List.length_eq_zero_iff.1 (by omega)
  · cases e
    right
    refine ⟨g, 0, rfl, (h.lt g rfl).2, fun i hi => ?_⟩
    rw [Nat.zero_add, h.cellAt _ (by omega), List.getElem?_map, List.getElem?_eq_getElem hi]; rfl
theorem wrow_from {w : World} {base n c : Nat} {X : Option Addr} {zs : List Value} (h : w.ownsRow base 28 1 (.slice X n c) n zs) : ∀ a, X = some a → base ≤ a.block := by
  rintro a rfl
  exact (h.lt _ rfl).1
theorem wrow_snoc {base n : Nat} {xs : List Int} {x : Int} {w : World} {v : Value} (hn : xs.length = n) (h : w.ownsRow base 28 1 v (xs.length + 1) (xs.map (Value.int .u64) ++ [.int .u64 x])) : w.ownsRow base 28 1 v (n + 1) ((xs ++ [x]).map (Value.int .u64)) := by
  rw [List.map_append, ← hn]; exact h

set_option maxRecDepth 100000 in
set_option maxHeartbeats 8000000 in
theorem loadL_any {w : World} {t m c y : Nat} {T : List Int} {d : Dv} (h : DevIs w t m c y T d) (hd : d.dead = false) {a : Int} {n : Nat} (h0 : 0 ≤ a) (h1 : a + n ≤ d.n) : Calls Try.prog 75 #[.pointer (some ⟨t, 0, none⟩), .int .i64 a, .int .i64 n] w fun e w' => ∃ X cc, e = .returned (.tuple #[.slice X n cc, .int .i64 0]) ∧ Words w' X n (wordsAt d a n) ∧ (∀ a, X = some a → w.heap.size ≤ a.block) ∧ Below w.heap.size w w' := by
  have H := Lib.hid h
  have hnb := h.nb
  have HD := Lib.hid hd
  obtain ⟨i0, hin, hz0, hz1, hz2⟩ := info_parts Try.info28
  clear h hd
  go_enter Try.func75, Try.ntmps75
  go_wp2
  go_loopw [8, 13] (fun v u wr => ∃ j : Nat, j ≤ n ∧ u = .int .i64 j ∧ wr.ownsRow w.heap.size 28 1 v j ((wordsAt d a j).map (Value.int .u64)) ∧ Below w.heap.size w wr) (fun _ u _ => n - (intOf u).toNat)
  case atStart => exact ⟨0, Nat.zero_le _, rfl, World.ownsRow_nil _ _ _ _, Below.refl _ _⟩
  case round =>
    obtain ⟨j, hj, rfl, hown, hb⟩ := hrel
    have Hown := Lib.hid hown
    have hbs := hb.size
    have HL := Lib.hid (wordsAt_succ d a j)
    have hlj := wordsAt_len d a j
    clear hown
    by_cases hlt : j < n
    · have hi64 : W64 (a + j) := by unfold W64; omega
      have HCL := Lib.hid (show Calls Try.prog 23 #[.pointer (some ⟨t, 0, none⟩), .int .i64 (a + j)] wr fun e w' => e = .returned (.tuple #[.int .u64 (d.holds (a + j)), .int .i64 0]) ∧ w' = wr from by
        have hl := load_any (H.out.below hb) hi64
        rw [HD.out, fault_in (by omega) (by omega), if_pos rfl] at hl
        exact hl)
      generalize d.holds (a + j) = x at *
      generalize wordsAt d a j = L at *
      go_wp2_with (first
        | (go_at_call 23; refine (HCL.out).mono ?_; rintro e w13 ⟨rfl, rfl⟩)
        | (at_builtin; refine wpList_append_own_at _ rfl _ _ 53 rfl w.heap.size 28 i0 (.int .u64 0) 1 8 Try.underlying53 hin hz0 hz1 hz2 rfl (by decide) _ L.length (L.map (Value.int .u64)) rfl (by rw [hlj]; exact Hown.out.alloc _) ⟨w13.heap.size, 0, none⟩ 1 1 [.int .u64 x] rfl rfl (cell_one_new _ _ _) ?c2 ?c3 ?c4 ?c5 ?_))
      case c2 => intro u hu; rw [List.mem_singleton] at hu; subst hu; rfl
      case c3 => unfold maxLen; omega
      case c4 => omega
      case c5 => simp; omega
      intro v6 w6 hown6 hgrow6 _ _
      have hb6 := (hb.alloc hb.size (.cells #[.int .u64 x] 28)).grown hgrow6 (by simp; omega) (fun k hk => (Hown.out.lt k hk).1)
      have Hown6 := Lib.hid (wrow_snoc hlj (by rw [hlj]; exact hown6))
      clear hown6 hgrow6
      go_wp2
      go_roundw
      case rel => exact ⟨j + 1, by omega, by go_num, by rw [HL.out]; exact Hown6.out, hb6⟩
      case measure => simp [intOf]; omega
    · obtain rfl : j = n := by omega
      obtain ⟨X, c', hv⟩ := own_slice Hown.out
      subst hv
      go_wp2
      go_ret2
      exact ⟨X, c', rfl, words_of_row hlj Hown.out, wrow_from Hown.out, hb⟩
end Go.Proofs.Ytdnoniolpplgiaa
