/- The table's smaller functions: contracts. -/
import Derived.Test.YtcleabnbdfhmnaaMap
import Derived.WalkSpells
namespace Go.Proofs.Ytcleabnbdfhmnaa
open Go.RowKit Go.Maps Go.Sort Go.Shelf

structure TabIs (w : World) (t b n : Nat) (xs : List L) : Prop where
  cell : w.cell? ⟨t, 0, none⟩ = some (.map (some b))
  tl : t < w.heap.size
  tb : t ≠ b
  map : MapIs w b n xs
  ris : Rising xs
  wf : ∀ y ∈ xs, W64 y.who
  len : xs.length ≤ n
  few : n ≤ 1000

theorem TabIs.below {w w' : World} {t b n : Nat} {xs : List L} (h : TabIs w t b n xs) (hb : Below w.heap.size w w') : TabIs w' t b n xs :=
  ⟨(hb.cell h.tl).trans h.cell, Nat.lt_of_lt_of_le h.tl hb.size, h.tb, h.map.below hb, h.ris, h.wf, h.len, h.few⟩

def NumsOf (base : Nat) (xs : List Int) (w0 : World) (e : Ending) (w : World) : Prop :=
  ∃ v, e = .returned v ∧ w.ownsRow base 3 1 v xs.length (xs.map (Value.int .i64)) ∧ Below base w0 w

theorem below_drewN {b : Nat} {w w' : World} (h : Below b w w') (n : Nat) : Below b w (w'.drewN n) := by
  induction n with
  | zero => exact h
  | succ n ih => exact ih.drew

set_option maxHeartbeats 1600000 in
theorem ok_any {w : World} {t b n : Nat} {xs : List L} (h : TabIs w t b n xs) : Calls Try.prog 27 #[.pointer (some ⟨t, 0, none⟩)] w fun e w' => e = .returned (.bool true) ∧ w' = w := by
  have hc := h.cell
  have hq : ∀ (w : World) (r : Option Nat), (binOp .neq 50 (.map r) (.map none)).run Try.prog w = .ok (.bool (!r.isNone)) w := fun w r => run_neq_map_nil w _ _ _ r Try.underlying50
  clear h
  go_enter Try.func27, Try.ntmps27
  go_wp2
  go_ret
  exact ⟨rfl, rfl⟩

set_option maxHeartbeats 1600000 in
theorem ok_nil (w : World) : Calls Try.prog 27 #[.pointer none] w fun e w' => e = .returned (.bool false) ∧ w' = w := by
  go_enter Try.func27, Try.ntmps27
  go_wp2
  go_ret
  exact ⟨rfl, rfl⟩

set_option maxHeartbeats 1600000 in
theorem who_any {w : World} {t b n : Nat} {xs : List L} (h : TabIs w t b n xs) : Calls Try.prog 28 #[.pointer (some ⟨t, 0, none⟩)] w (NumsOf w.heap.size (xs.map L.who) w) := by
  have hc := h.cell
  have CO := Lib.hid (ok_any h)
  obtain ⟨D, hown, h1, h2⟩ := h.map
  have hsz := hown.size_le
  have hf := h.few
  have CK := Lib.hid (keys_call (some b) w)
  have CS := Lib.hid (sorted_call b n D w hown (by unfold maxLen; omega) (by omega))
  have HK := Lib.hid (fun (ss : List Int) (hp : ss.Perm (intKeys D)) => MapIs.keys hown h1 h.ris hp)
  clear h hown h1 h2
  go_enter Try.func28, Try.ntmps28
  go_wp2_with (first
    | (go_at_call 27; refine (CO.out).mono ?_; rintro e w' ⟨rfl, hw⟩; rw [hw]; clear hw w')
    | (go_at_call 33; refine (CK.out).mono ?_; rintro e w' ⟨rfl, hw⟩; rw [hw]; clear hw w')
    | (go_at_call 31; refine (CS.out).mono ?_; rintro e w' ⟨v, ss, rfl, hS, hrow, hnil, hb⟩; have hlen := hS.length_eq; rw [HK.out ss hS] at hrow))
  go_ret
  have hl : ss.length = (xs.map L.who).length := by rw [← HK.out ss hS, List.length_mergeSort]
  refine ⟨v, rfl, ?_, ((Below.refl _ w).alloc (Nat.le_refl _) _).trans (hb.mono (by simp))⟩
  rw [← hl]
  exact ownsRow_base_a hrow (by simp)

set_option maxHeartbeats 1600000 in
theorem who_nil (w : World) : Calls Try.prog 28 #[.pointer none] w fun e w' => e = .returned (.slice none 0 0) ∧ w' = w := by
  have CO := Lib.hid (ok_nil w)
  go_enter Try.func28, Try.ntmps28
  go_wp2_with (first
    | (go_at_call 27; refine (CO.out).mono ?_; rintro e w' ⟨rfl, hw⟩; rw [hw]; clear hw w'))
  go_ret
  exact ⟨rfl, rfl⟩

set_option maxHeartbeats 1600000 in
theorem has_any {w : World} {t b n : Nat} {xs : List L} (h : TabIs w t b n xs) {k : Int} (hk : W64 k) : Calls Try.prog 12 #[.pointer (some ⟨t, 0, none⟩), .int .i64 k] w fun e w' => e = .returned (.tuple #[.int .i64 (findL xs k).ino, .bool (findL xs k).al, .bool (xs.any (fun y => y.who == k))]) ∧ Below w.heap.size w w' := by
  have hc := h.cell
  have CO := Lib.hid (ok_any h)
  obtain ⟨hl1, hl2⟩ := h.map.look hk
  clear h
  generalize (findL xs k).ino = i at *
  generalize (findL xs k).al = a at *
  generalize xs.any (fun y => y.who == k) = r at *
  go_enter Try.func12, Try.ntmps12
  go_wp2_with (first
    | (go_at_call 27; refine (CO.out).mono ?_; rintro e w' ⟨rfl, hw⟩; rw [hw]; clear hw w'))
  go_quiet (fail)
  go_wp2
  exact bodyPost_ret (v := .tuple #[.int .i64 i, .bool a, .bool r]) (by simp [results, Try.results12, go_sem]) rfl ⟨rfl, below_drewN ((Below.refl _ _).alloc (Nat.le_refl _) _) _⟩

set_option maxHeartbeats 1600000 in
theorem has_nil (w : World) (k : Int) : Calls Try.prog 12 #[.pointer none, .int .i64 k] w fun e w' => e = .returned (.tuple #[.int .i64 0, .bool false, .bool false]) ∧ Below w.heap.size w w' := by
  have CO := Lib.hid (ok_nil w)
  go_enter Try.func12, Try.ntmps12
  go_wp2_with (first
    | (go_at_call 27; refine (CO.out).mono ?_; rintro e w' ⟨rfl, hw⟩; rw [hw]; clear hw w'))
  exact bodyPost_ret (v := .tuple #[.int .i64 0, .bool false, .bool false]) (by simp [results, Try.results12, go_sem]) rfl ⟨rfl, Below.refl _ _⟩
end Go.Proofs.Ytcleabnbdfhmnaa
