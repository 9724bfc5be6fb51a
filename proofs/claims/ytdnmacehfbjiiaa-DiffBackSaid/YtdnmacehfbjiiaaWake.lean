/- Whether nothing changed; chapter 41's example: contracts (packages diff, sumplaw41). -/
import Derived.Test.YtdnmacehfbjiiaaOf2
namespace Go.Proofs.Ytdnmacehfbjiiaa
open Go.RowKit Go.Maps Go.Sort Go.Shelf

theorem kindI_self (x : It) : kindI x x = 0 := by unfold kindI; simp
theorem chs_self (fa : Str → Option It) (ps : List Str) (h : ∀ p ∈ ps, (fa p).isSome = true) : chs fa fa ps = [] := by
  unfold chs
  rw [List.filterMap_eq_nil_iff]
  intro p hp
  have h1 := h p hp
  rw [if_neg]
  unfold chK
  rw [if_neg (by rw [h1]; simp), if_neg (by rw [h1]; simp), kindI_self]
  simp
set_option maxHeartbeats 1600000 in
theorem empty_any {w : World} {A A2 : Option Addr} {n1 n2 : Nat} {xs ys : List It} (c c2 : Nat) (h : Items w A n1 xs) (h2 : Items w A2 n2 ys) (hn1 : n1 ≤ 1000) (hn2 : n2 ≤ 1000) : Calls Try.prog 10 #[.slice A n1 c, .slice A2 n2 c2] w fun e w' => ∃ ps, PathsOf (firstF xs) (firstF ys) ps ∧ e = .returned (.bool (decide (chs (firstF xs) (firstF ys) ps = []))) ∧ Below w.heap.size w w' := by
  have CO := Lib.hid (of_any c c2 h h2 hn1 hn2)
  clear h h2
  go_enter Try.func10, Try.ntmps10
  go_wp2_with (go_at_call 8; refine (CO.out).mono ?_; rintro e w2 ⟨ps, X, cx, m, hP, rfl, hC, hm, hb⟩; have HP := Lib.hid hP; have HB := Lib.hid hb; have HC := Lib.hid hC; clear hP hb hC)
  go_ret
  refine ⟨ps, HP.out, ?_, HB.out⟩
  have hq : ((m : Int) == 0) = decide (chs (firstF xs) (firstF ys) ps = []) := by
    have h1 := HC.out.1
    rw [Bool.eq_iff_iff]
    simp only [beq_iff_eq, decide_eq_true_eq]
    rw [← List.length_eq_zero_iff, h1]
    omega
  rw [← hq]
  rfl
def exA : List It := [⟨[47], 0, 2, 0, none, 0, 0, []⟩]
def exB : List It := [⟨[47], 0, 2, 0, none, 0, 0, []⟩, ⟨[47, 120], 0, 1, 0, none, 0, 0, []⟩]
theorem exA_is (w : World) : Items (w.alloc (.cells #[encStr [47], .int .i64 0, .int .i64 2, .int .i64 0, .slice none 0 0] 29)) (some ⟨w.heap.size, 0, none⟩) 1 exA := by
  have c0 : (w.alloc (.cells #[encStr [47], .int .i64 0, .int .i64 2, .int .i64 0, .slice none 0 0] 29)).cell? ⟨w.heap.size, 0, none⟩ = some (encStr [47]) := by go_simp
  have c1 : (w.alloc (.cells #[encStr [47], .int .i64 0, .int .i64 2, .int .i64 0, .slice none 0 0] 29)).cell? ⟨w.heap.size, 1, none⟩ = some (.int .i64 0) := by go_simp
  have c2 : (w.alloc (.cells #[encStr [47], .int .i64 0, .int .i64 2, .int .i64 0, .slice none 0 0] 29)).cell? ⟨w.heap.size, 2, none⟩ = some (.int .i64 2) := by go_simp
  have c3 : (w.alloc (.cells #[encStr [47], .int .i64 0, .int .i64 2, .int .i64 0, .slice none 0 0] 29)).cell? ⟨w.heap.size, 3, none⟩ = some (.int .i64 0) := by go_simp
  have c4 : (w.alloc (.cells #[encStr [47], .int .i64 0, .int .i64 2, .int .i64 0, .slice none 0 0] 29)).cell? ⟨w.heap.size, 4, none⟩ = some (.slice none 0 0) := by go_simp
  refine ⟨rfl, fun x hx => ?_, .inr ⟨w.heap.size, 0, rfl, by simp, fun i hi => ?_⟩⟩
  · unfold exA at hx
    rw [List.mem_singleton] at hx
    subst hx
    exact ⟨⟨rfl, .inl rfl⟩, by simp [maxLen], by simp⟩
  · have hi' : i < 1 := hi
    obtain rfl : i = 0 := by omega
    exact ⟨c0, c1, c2, c3, c4⟩
theorem cell_new (w : World) (cs : Array Value) (t : TypeId) (j : Nat) : (w.alloc (.cells cs t)).cell? ⟨w.heap.size, j, none⟩ = cs[j]? := by simp
theorem exB_is (w : World) : Items (w.alloc (.cells #[encStr [47], .int .i64 0, .int .i64 2, .int .i64 0, .slice none 0 0, encStr [47, 120], .int .i64 0, .int .i64 1, .int .i64 0, .slice none 0 0] 29)) (some ⟨w.heap.size, 0, none⟩) 2 exB := by
  generalize hw : w.alloc (.cells #[encStr [47], .int .i64 0, .int .i64 2, .int .i64 0, .slice none 0 0, encStr [47, 120], .int .i64 0, .int .i64 1, .int .i64 0, .slice none 0 0] 29) = w'
  have hs : w.heap.size < w'.heap.size := by rw [← hw]; simp
  have c0 : w'.cell? ⟨w.heap.size, 0, none⟩ = some (encStr [47]) := by rw [← hw, cell_new]; rfl
  have c1 : w'.cell? ⟨w.heap.size, 1, none⟩ = some (.int .i64 0) := by rw [← hw, cell_new]; rfl
  have c2 : w'.cell? ⟨w.heap.size, 2, none⟩ = some (.int .i64 2) := by rw [← hw, cell_new]; rfl
  have c3 : w'.cell? ⟨w.heap.size, 3, none⟩ = some (.int .i64 0) := by rw [← hw, cell_new]; rfl
  have c4 : w'.cell? ⟨w.heap.size, 4, none⟩ = some (.slice none 0 0) := by rw [← hw, cell_new]; rfl
  have c5 : w'.cell? ⟨w.heap.size, 5, none⟩ = some (encStr [47, 120]) := by rw [← hw, cell_new]; rfl
  have c6 : w'.cell? ⟨w.heap.size, 6, none⟩ = some (.int .i64 0) := by rw [← hw, cell_new]; rfl
  have c7 : w'.cell? ⟨w.heap.size, 7, none⟩ = some (.int .i64 1) := by rw [← hw, cell_new]; rfl
  have c8 : w'.cell? ⟨w.heap.size, 8, none⟩ = some (.int .i64 0) := by rw [← hw, cell_new]; rfl
  have c9 : w'.cell? ⟨w.heap.size, 9, none⟩ = some (.slice none 0 0) := by rw [← hw, cell_new]; rfl
  refine ⟨rfl, fun x hx => ?_, .inr ⟨w.heap.size, 0, rfl, hs, fun i hi => ?_⟩⟩
  · unfold exB at hx
    simp only [List.mem_cons, List.not_mem_nil, or_false] at hx
    rcases hx with rfl | rfl
    · exact ⟨⟨rfl, .inl rfl⟩, by simp [maxLen], by simp⟩
    · exact ⟨⟨rfl, .inl rfl⟩, by simp [maxLen], by simp⟩
  · have hi' : i < 2 := hi
    rcases (show i = 0 ∨ i = 1 by omega) with rfl | rfl
    · exact ⟨c0, c1, c2, c3, c4⟩
    · exact ⟨c5, c6, c7, c8, c9⟩
theorem ex_some (k : Str) : (firstF exB k).isSome = true ↔ (k = [47] ∨ k = [47, 120]) := by
  unfold firstF exB
  rw [List.find?_isSome]
  simp [eq_comm]
theorem ex_someA (k : Str) : (firstF exA k).isSome = true ↔ k = [47] := by
  unfold firstF exA
  rw [List.find?_isSome]
  simp [eq_comm]
theorem ex_paths : PathsOf (firstF exA) (firstF exB) [[47], [47, 120]] := by
  refine ⟨?_, by decide, fun k => ?_⟩
  · rw [List.pairwise_pair]; decide
  · rw [ex_some, ex_someA]
    simp only [List.mem_cons, List.not_mem_nil, or_false]
    constructor
    · rintro (h | h)
      · exact .inl h
      · exact .inr (.inr h)
    · rintro (h | h | h)
      · exact .inl h
      · exact .inl h
      · exact .inr h
theorem ex_chs : chs (firstF exA) (firstF exB) [[47], [47, 120]] = [([47, 120], 1)] := by decide
theorem empty_self {w : World} {A : Option Addr} {n : Nat} {xs : List It} (c c2 : Nat) (h : Items w A n xs) (hn : n ≤ 1000) : Calls Try.prog 10 #[.slice A n c, .slice A n c2] w fun e w' => e = .returned (.bool true) ∧ Below w.heap.size w w' := by
  refine (empty_any c c2 h h hn hn).mono ?_
  rintro e w' ⟨ps, hP, rfl, hb⟩
  refine ⟨?_, hb⟩
  rw [chs_self _ _ (fun p hp => by rcases (hP.2.2 p).1 hp with h | h <;> exact h), decide_eq_true rfl]
set_option maxRecDepth 100000 in
set_option maxHeartbeats 8000000 in
theorem awake_any (w : World) : Calls Try.prog 6 #[] w fun e w' => e = .returned (.bool true) ∧ Below w.heap.size w w' := by
  have hb1 : Below w.heap.size w (w.alloc (.cells #[encStr [47], .int .i64 0, .int .i64 2, .int .i64 0, .slice none 0 0] 29)) := (Below.refl _ _).alloc (Nat.le_refl _) _
  have hb2 : Below w.heap.size w ((w.alloc (.cells #[encStr [47], .int .i64 0, .int .i64 2, .int .i64 0, .slice none 0 0] 29)).alloc (.cells #[encStr [47], .int .i64 0, .int .i64 2, .int .i64 0, .slice none 0 0, encStr [47, 120], .int .i64 0, .int .i64 1, .int .i64 0, .slice none 0 0] 29)) := hb1.alloc hb1.size _
  have hA := (exA_is w).below ((Below.refl _ _).alloc (Nat.le_refl _) (.cells #[encStr [47], .int .i64 0, .int .i64 2, .int .i64 0, .slice none 0 0, encStr [47, 120], .int .i64 0, .int .i64 1, .int .i64 0, .slice none 0 0] 29))
  have hB := exB_is (w.alloc (.cells #[encStr [47], .int .i64 0, .int .i64 2, .int .i64 0, .slice none 0 0] 29))
  have hsz : (w.alloc (.cells #[encStr [47], .int .i64 0, .int .i64 2, .int .i64 0, .slice none 0 0] 29)).heap.size = w.heap.size + 1 := by simp
  rw [hsz] at hB
  have CO := Lib.hid (of_any 1 2 hA hB (by omega) (by omega))
  have HA := Lib.hid hA
  have HB2 := Lib.hid hb2
  clear hb1 hb2 hA hB hsz
  unfold encStr at *
  go_enter Try.func6, Try.ntmps6
  go_wp2_with (first
    | (go_at_call 8; refine (CO.out).mono ?_; rintro e w3 ⟨ps, X, cx, m, hP, rfl, hC, hm, hb⟩; obtain rfl := hP.uniq ex_paths; rw [ex_chs] at hC; obtain rfl : m = 1 := hC.1.symm; obtain ⟨g, off, rfl, hgl, x, hx, c0, c1⟩ := hC.at (show 0 < 1 by omega); cases hx; have HB3 := Lib.hid (HB2.out.trans (hb.mono HB2.out.size)); have CE := Lib.hid (empty_self 1 1 (HA.out.below hb) (by omega)); have HC3 := Lib.hid hC; clear hP hC hm hb)
    | (go_at_call 10; refine (CE.out).mono ?_; rintro e w4 ⟨rfl, hb⟩; have d0 : w4.cell? ⟨g, off, none⟩ = some (.string ⟨#[47, 120]⟩) := (hb.cell hgl).trans (by simpa [encStr] using c0); have d1 : w4.cell? ⟨g, off + 1, none⟩ = some (.int .i64 1) := (hb.cell hgl).trans (by simpa using c1); have HB4 := Lib.hid (HB3.out.trans (hb.mono HB3.out.size)); clear hb))
  go_ret
  exact ⟨rfl, HB4.out⟩
end Go.Proofs.Ytdnmacehfbjiiaa
