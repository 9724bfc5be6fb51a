/- Whether a table is right; a table that nobody made. -/
import Derived.Test.YtcleabnbdfhmnaaMay
namespace Go.Proofs.Ytcleabnbdfhmnaa
open Go.RowKit Go.Maps Go.Sort Go.Shelf

set_option maxHeartbeats 1600000 in
theorem users_nil (w : World) (i : Int) : Calls Try.prog 14 #[.pointer none, .int .i64 i] w fun e w' => e = .returned (.slice none 0 0) ∧ w' = w := by
  have CW := Lib.hid (who_nil w)
  go_enter Try.func14, Try.ntmps14
  go_wp2_with (go_at_call 28; refine (CW.out).mono ?_; rintro e w2 ⟨rfl, hw⟩; rw [hw]; clear hw w2)
  go_loopw [5, 11] (fun v k wr => v = .slice none 0 0 ∧ k = .int .i64 0 ∧ wr = w) (fun _ _ _ => 0)
  case atStart => exact ⟨rfl, rfl, rfl⟩
  case round =>
    obtain ⟨rfl, rfl, rfl⟩ := hrel
    go_wp2
    go_ret
    exact ⟨rfl, rfl⟩

set_option maxHeartbeats 1600000 in
theorem may_nil (w : World) (who ino : Int) (al : Bool) : Calls Try.prog 9 #[.pointer none, .int .i64 who, .int .i64 ino, .bool al] w fun e w' => e = .returned (.bool false) ∧ Below w.heap.size w w' := by
  have CH := Lib.hid (has_nil w who)
  go_enter Try.func9, Try.ntmps9
  go_wp2_with (first
    | (go_at_call 12; refine (CH.out).mono ?_; rintro e w2 ⟨rfl, hb2⟩)
    | (go_at_call 27; refine (ok_nil _).mono ?_; rintro e w3 ⟨rfl, hw3⟩; rw [hw3]; clear hw3 w3))
  go_ret
  exact ⟨rfl, hb2⟩

set_option maxHeartbeats 1600000 in
theorem take_nil (w : World) (who ino : Int) (al : Bool) : Calls Try.prog 11 #[.pointer none, .int .i64 who, .int .i64 ino, .bool al] w fun e w' => e = .returned (.bool false) ∧ Below w.heap.size w w' := by
  have CM := Lib.hid (may_nil w who ino al)
  go_enter Try.func11, Try.ntmps11
  go_wp2_with (go_at_call 9; refine (CM.out).mono ?_; rintro e w2 ⟨rfl, hb2⟩)
  go_ret
  exact ⟨rfl, hb2⟩

set_option maxHeartbeats 1600000 in
theorem give_nil (w : World) (who : Int) : Calls Try.prog 10 #[.pointer none, .int .i64 who] w fun e w' => e = .returned (.bool false) ∧ Below w.heap.size w w' := by
  have CH := Lib.hid (has_nil w who)
  go_enter Try.func10, Try.ntmps10
  go_wp2_with (go_at_call 12; refine (CH.out).mono ?_; rintro e w2 ⟨rfl, hb2⟩)
  go_ret
  exact ⟨rfl, hb2⟩

set_option maxHeartbeats 1600000 in
theorem free_nil (w : World) : Calls Try.prog 15 #[.pointer none] w fun e w' => e = .returned (.bool true) ∧ w' = w := by
  have CW := Lib.hid (who_nil w)
  go_enter Try.func15, Try.ntmps15
  go_wp2_with (go_at_call 28; refine (CW.out).mono ?_; rintro e w2 ⟨rfl, hw⟩; rw [hw]; clear hw w2)
  go_ret
  exact ⟨rfl, rfl⟩

set_option maxHeartbeats 1600000 in
theorem right_nil (w : World) : Calls Try.prog 16 #[.pointer none] w fun e w' => e = .returned (.bool true) ∧ w' = w := by
  have CW := Lib.hid (who_nil w)
  go_enter Try.func16, Try.ntmps16
  go_wp2_with (go_at_call 28; refine (CW.out).mono ?_; rintro e w2 ⟨rfl, hw⟩; rw [hw]; clear hw w2)
  go_loopw [9] (fun k wr => k = .int .i64 0 ∧ wr = w) (fun _ _ => 0)
  case atStart => exact ⟨rfl, rfl⟩
  case round =>
    obtain ⟨rfl, rfl⟩ := hrel
    go_wp2
    go_ret
    exact ⟨rfl, rfl⟩

theorem take_at {w : World} {t b n : Nat} {xs : List L} (h : TabIs w t b n xs) (who ino : Int) (al : Bool) (hw : W64 who) (hn : n < 1000) {r : Bool} (hr : mayB xs who ino al = r) {ys : List L} (hy : takeL xs ⟨who, ino, al⟩ = ys) :
    Calls Try.prog 11 #[.pointer (some ⟨t, 0, none⟩), .int .i64 who, .int .i64 ino, .bool al] w fun e w' => e = .returned (.bool r) ∧ TabIs w' t b (n + 1) ys ∧ w.grownBy w' (some b) := by
  subst hr hy
  exact take_any h ⟨who, ino, al⟩ hw hn

set_option maxRecDepth 100000 in
set_option maxHeartbeats 4000000 in
theorem awake_any (w : World) : Calls Try.prog 7 #[] w fun e w' => e = .returned (.bool true) ∧ Below w.heap.size w w' := by
  have CN := Lib.hid (new_any w)
  go_enter Try.func7, Try.ntmps7
  go_wp2_with (first
    | (go_at_call 8; refine (CN.out).mono ?_; rintro e w2 ⟨t, b, rfl, hT, hb2, ht, hbb⟩; have C1 := Lib.hid (take_at hT 1 5 false ⟨by decide, by decide⟩ (by omega) (r := true) rfl (ys := [⟨1, 5, false⟩]) rfl); clear hT)
    | (go_at_call 11; first
      | ((with_reducible refine (C1.out).mono ?_); rintro e w3 ⟨rfl, hT3, hg3⟩; have C2 := Lib.hid (take_at hT3 2 5 false ⟨by decide, by decide⟩ (by omega) (r := true) rfl (ys := [⟨1, 5, false⟩, ⟨2, 5, false⟩]) rfl); have hb3 := hb2.grown hg3 hb2.size (fun i hi => by cases hi; exact hbb); clear hT3 hg3)
      | ((with_reducible refine (C2.out).mono ?_); rintro e w4 ⟨rfl, hT4, hg4⟩; have C3 := Lib.hid (take_at hT4 3 5 true ⟨by decide, by decide⟩ (by omega) (r := false) rfl (ys := [⟨1, 5, false⟩, ⟨2, 5, false⟩]) rfl); have hb4 := hb3.grown hg4 hb3.size (fun i hi => by cases hi; exact hbb); clear hT4 hg4)
      | ((with_reducible refine (C3.out).mono ?_); rintro e w5 ⟨rfl, hT5, hg5⟩; have hb5 := hb4.grown hg5 hb4.size (fun i hi => by cases hi; exact hbb); clear hT5 hg5)))
  go_ret
  exact ⟨rfl, hb5⟩
end Go.Proofs.Ytcleabnbdfhmnaa
