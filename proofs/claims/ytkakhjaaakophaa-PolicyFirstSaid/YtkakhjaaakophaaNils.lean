/- Run, Score, First and Scores of any slice of bools, a nil one too; chapter 2's example. -/
import Derived.Test.YtkakhjaaakophaaSame
namespace Go.Proofs.Ytkakhjaaakophaa
open Go.RowKit Fl

set_option maxHeartbeats 400000 in
theorem score_nil (k g l : Nat) (A : Option Addr) (c : Nat) (w : World) : Calls Try.prog 23 #[pv k g l, .slice A 0 c] w (FloatIs (ab 0) w) := by
  have CS := Lib.hid (scorer_any k g l)
  unfold pv at CS ⊢
  go_enter Try.func23, Try.ntmps23
  go_wp2_with (go_at_call 34; refine (CS.out _).mono ?_; rintro e w' ⟨rfl, rfl⟩)
  refine wp_loop_rounds 1 ?_
  rw [rounds_succ]
  go_wp2
  go_ret
  exact ⟨0, rfl, rfl, below_new w k g l⟩

set_option maxHeartbeats 400000 in
theorem run_nil (k g l : Nat) (A : Option Addr) (c : Nat) (w : World) : Calls Try.prog 12 #[pv k g l, .slice A 0 c] w (RunIs [] w) := by
  have CS := Lib.hid (scorer_any k g l)
  unfold pv at CS ⊢
  go_enter Try.func12, Try.ntmps12
  go_wp2_with (go_at_call 34; refine (CS.out _).mono ?_; rintro e w' ⟨rfl, rfl⟩)
  refine wp_loop_rounds 1 ?_
  rw [rounds_succ]
  go_wp2
  go_ret
  exact ⟨_, [], rfl, World.ownsRow_nil _ _ _ _, rfl, below_new w k g l⟩

set_option maxHeartbeats 400000 in
theorem first_nil (k g l : Nat) (A : Option Addr) (c : Nat) (w : World) : Calls Try.prog 27 #[pv k g l, .slice A 0 c] w fun e w' => e = .returned (firstV none) ∧ Below w.heap.size w w' := by
  have CS := Lib.hid (scorer_any k g l)
  unfold pv at CS ⊢
  go_enter Try.func27, Try.ntmps27
  go_wp2_with (go_at_call 34; refine (CS.out _).mono ?_; rintro e w' ⟨rfl, rfl⟩)
  refine wp_loop_rounds 1 ?_
  rw [rounds_succ]
  go_wp2
  go_ret2
  exact ⟨rfl, below_new w k g l⟩

set_option maxHeartbeats 400000 in
theorem scores_nil (k g l : Nat) (A : Option Addr) (c : Nat) (w : World) : Calls Try.prog 26 #[pv k g l, .slice A 0 c] w (RunIs [] w) := by
  unfold pv
  go_enter Try.func26, Try.ntmps26
  go_wp2
  refine wp_loop_rounds 1 ?_
  rw [rounds_succ]
  go_wp2
  go_ret
  exact ⟨_, [], rfl, World.ownsRow_nil _ _ _ _, rfl, (Below.refl _ _).alloc (Nat.le_refl _) _⟩

/-- A slice reads as these bools. -/
def Bools (w : World) (A : Option Addr) (n : Nat) (bs : List Bool) : Prop :=
  bs.length = n ∧ (bs = [] ∨ ∃ b off, A = some ⟨b, off, none⟩ ∧ b < w.heap.size ∧ ∀ i, (h : i < bs.length) → w.cell? ⟨b, off + i, none⟩ = some (.bool bs[i]))

theorem Bools.below {w w' : World} {A : Option Addr} {n : Nat} {bs : List Bool} (h : Bools w A n bs) (hb : Below w.heap.size w w') : Bools w' A n bs := by
  refine ⟨h.1, ?_⟩
  rcases h.2 with h | ⟨b, off, rfl, hl, hc⟩
  · exact .inl h
  · exact .inr ⟨b, off, rfl, Nat.lt_of_lt_of_le hl hb.size, fun i hi => (hb.cell hl).trans (hc i hi)⟩

theorem score_of {A : Option Addr} {n : Nat} {bs : List Bool} {w : World} (k g l cap : Nat) (h : Bools w A n bs) (hm : n ≤ 1000000) : Calls Try.prog 23 #[pv k g l, .slice A n cap] w (FloatIs (ascore (ab k) (ab g) (ab 0) bs) w) := by
  obtain ⟨rfl, rfl | ⟨b, off, rfl, hl, hc⟩⟩ := h
  · exact score_nil k g l A cap w
  · exact score_any k g l b off cap bs w hc (fun _ => hl) hm
theorem run_of {A : Option Addr} {n : Nat} {bs : List Bool} {w : World} (k g l cap : Nat) (h : Bools w A n bs) (hm : n ≤ 1000000) : Calls Try.prog 12 #[pv k g l, .slice A n cap] w (RunIs (arun (ab k) (ab g) (ab 0) bs) w) := by
  obtain ⟨rfl, rfl | ⟨b, off, rfl, hl, hc⟩⟩ := h
  · exact run_nil k g l A cap w
  · exact run_any k g l b off cap bs w hc (fun _ => hl) hm
theorem scores_of {A : Option Addr} {n : Nat} {bs : List Bool} {w : World} (k g l cap : Nat) (h : Bools w A n bs) (hm : n ≤ 1000000) : Calls Try.prog 26 #[pv k g l, .slice A n cap] w (RunIs (arun (ab k) (ab g) (ab 0) bs) w) := by
  obtain ⟨rfl, rfl | ⟨b, off, rfl, hl, hc⟩⟩ := h
  · exact scores_nil k g l A cap w
  · exact scores_any k g l b off cap bs w hc (fun _ => hl) hm
theorem first_of {A : Option Addr} {n : Nat} {bs : List Bool} {w : World} (k g l cap : Nat) (h : Bools w A n bs) (hm : n ≤ 1000000) : Calls Try.prog 27 #[pv k g l, .slice A n cap] w fun e w' => e = .returned (firstV (afirst (ab k) (ab g) (ab l) (ab 0) bs)) ∧ Below w.heap.size w w' := by
  obtain ⟨rfl, rfl | ⟨b, off, rfl, hl, hc⟩⟩ := h
  · exact first_nil k g l A cap w
  · exact first_any k g l b off cap bs w hc (fun _ => hl) hm

theorem awake_run : arun (ab 4602678819172646912) (ab 4607182418800017408) (ab 0) [true, true] = [ab 4607182418800017408, ab 4609434218613702656] := by decide +kernel

theorem two_true (w : World) : Bools (w.alloc (.cells #[.bool true, .bool true] 4)) (some ⟨w.heap.size, 0, none⟩) 2 [true, true] := by
  refine ⟨rfl, .inr ⟨w.heap.size, 0, rfl, by simp, fun i hi => ?_⟩⟩
  have hi : i < 2 := hi
  rw [cell_of_row _ w.heap.size (0 + i) _ 4 (0, 0) (heap_alloc_new w _)]
  rcases (by omega : i = 0 ∨ i = 1) with rfl | rfl <;> rfl

set_option maxHeartbeats 800000 in
theorem awake2 (w : World) : Calls Try.prog 10 #[] w fun e w' => e = .returned (.bool true) ∧ Below w.heap.size w w' := by
  go_enter Try.func10, Try.ntmps10
  go_wp2_with fail
  have hb := two_true w
  have hc := run_of 4602678819172646912 4607182418800017408 0 2 hb (by omega)
  unfold pv at hc
  refine hc.mono ?_
  rintro e w1 ⟨v, rs, rfl, hown, hrs, hbw⟩
  rw [awake_run] at hown hrs
  have hown1 := Lib.hid hown
  have hrs1 := Lib.hid hrs
  clear hown hrs hc hb
  go_wp2_with fail
  have hlt : w1.heap.size < (w1.alloc (.cells #[.float .f64 4607182418800017408, .float .f64 4609434218613702656] 22)).heap.size := by simp
  have h2 : (w1.alloc (.cells #[.float .f64 4607182418800017408, .float .f64 4609434218613702656] 22)).ownsRow w1.heap.size 22 1 (.slice (some ⟨w1.heap.size, 0, none⟩) 2 2) 2 ([4607182418800017408, 4609434218613702656].map (Value.float .f64)) :=
    ⟨rfl, .inr ⟨w1.heap.size, 2, #[.float .f64 4607182418800017408, .float .f64 4609434218613702656], rfl, Nat.le_refl _, heap_alloc_new _ _, by omega, by unfold maxLen; omega, rfl, rfl⟩⟩
  refine (samefloats_rows (as_ := [ab 4607182418800017408, ab 4609434218613702656]) (by simp) (hown1.out.alloc _) hrs1.out h2 rfl).mono ?_
  rintro e w2 ⟨rfl, hb2⟩
  go_wp2
  go_ret
  exact ⟨rfl, (((((Below.refl _ _).alloc (Nat.le_refl _) _).trans (hbw.mono (by simp))).alloc (by have := hbw.size; simp at this; omega) _).trans (hb2.mono (by have := hbw.size; simp at this ⊢; omega)))⟩
end Go.Proofs.Ytkakhjaaakophaa
