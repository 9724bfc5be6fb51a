/- The pages of extents: the package's Pages. -/
import Derived.Test.YtefbhcpcbolbiaaAt2
import Derived.Test.YtefbhcpcbolbiaaExt
import Derived.Deep.OwnRows
import Derived.Deep.Onto
namespace Go.Proofs.Ytefbhcpcbolbiaa
open Go.RowKit

/-- The first k pages of an extent, put into a row. -/
def putK (out : List Int) (x : E) : Nat → List Int
  | 0 => out
  | k + 1 => (putK out x k).set (x.f.toNat + k) (x.p + k)
def cntE (x : E) (n : Nat) : Nat := (min x.l (max ((n : Int) - x.f) 0)).toNat
def pagesN (xs : List E) (n : Nat) : Nat → List Int
  | 0 => List.replicate n 0
  | j + 1 => match xs[j]? with
    | none => pagesN xs n j
    | some x => putK (pagesN xs n j) x (cntE x n)
def pagesL (xs : List E) (n : Nat) : List Int := pagesN xs n xs.length

theorem putK_succ (out : List Int) (x : E) (k : Nat) : putK out x (k + 1) = (putK out x k).set (x.f.toNat + k) (x.p + k) := rfl
theorem putK_len (out : List Int) (x : E) (k : Nat) : (putK out x k).length = out.length := by
  induction k with
  | zero => rfl
  | succ k ih => unfold putK; rw [List.length_set, ih]
theorem pagesN_len (xs : List E) (n j : Nat) : (pagesN xs n j).length = n := by
  induction j with
  | zero => simp [pagesN]
  | succ j ih =>
    unfold pagesN
    split
    · exact ih
    · rw [putK_len, ih]
theorem pagesN_at {xs : List E} {n j : Nat} {x : E} (h : xs[j]? = some x) : pagesN xs n (j + 1) = putK (pagesN xs n j) x (cntE x n) := by
  show (match xs[j]? with | none => _ | some x => _) = _
  rw [h]

theorem oneB_bounds {x : E} (h : oneB x = true) : 0 ≤ x.f ∧ x.f ≤ 1048576 ∧ 1 ≤ x.l ∧ x.l ≤ 1048576 ∧ 1 ≤ x.p ∧ x.p ≤ 1048576 ∧ x.f + x.l ≤ 1048576 ∧ x.p + x.l ≤ 1048576 := by
  unfold oneB at h; simp at h; omega
theorem rightB_one {xs : List E} (h : rightB xs = true) {j : Nat} {x : E} (hx : xs[j]? = some x) : oneB x = true := by
  unfold rightB at h
  rw [List.all_eq_true] at h
  have := h j (List.mem_range.2 (List.getElem?_eq_some_iff.1 hx).1)
  unfold okAt at this
  rw [hx] at this
  simp at this
  exact this.1

theorem Try.info3 : (Try.prog.info? 3).map (fun i => (i.zero, i.size, i.bytes)) = some (some (.int .i64 0), 1, 8) := by kernel_rfl

/-- A row of numbers of the call's own. -/
def NumsOf (base : Nat) (xs : List Int) (w0 : World) (e : Ending) (w : World) : Prop :=
  ∃ v, e = .returned v ∧ w.ownsRow base 3 1 v xs.length (xs.map (Value.int .i64)) ∧ Below base w0 w

theorem made_zeros (w : World) (n : Nat) (hm : n ≤ maxLen) : (w.alloc (.cells (madeCells #[.int .i64 0] n) 3)).ownsRow w.heap.size 3 1 (.slice (some ⟨w.heap.size, 0, none⟩) n n) n ((List.replicate n 0).map (Value.int .i64)) := by
  have h := World.ownsRow_lit (base := w.heap.size) (e := 3) (size := 1) w (madeCells #[.int .i64 0] n) n (Nat.le_refl _) hm (by rw [size_madeCells]; omega)
  have e : (madeCells #[.int .i64 0] n).toList = (List.replicate n 0).map (Value.int .i64) := by
    apply List.ext_getElem?
    intro i
    by_cases hi : i < n
    · simp [madeCells, hi, Nat.mod_one]
    · rw [List.getElem?_eq_none (by simp [size_madeCells]; omega), List.getElem?_eq_none (by simp; omega)]
  rw [e] at h
  exact h

set_option maxRecDepth 100000 in
set_option maxHeartbeats 4000000 in
theorem pages_any {A : Option Addr} {m : Nat} {xs : List E} {w : World} (cap : Nat) (n : Int) (h : Exts w A m xs) (hm : m ≤ maxLen) (hn : n ≤ 1000) : Calls Try.prog 9 #[.slice A m cap, .int .i64 n] w (NumsOf w.heap.size (if rightB xs ∧ 1 ≤ n then pagesL xs n.toNat else []) w) := by
  have CR := Lib.hid (right_any cap h hm)
  unfold maxLen at hm
  have H := Lib.hid h
  have hl : xs.length = m := h.1
  clear h
  cases hr : rightB xs with
  | false =>
    rw [hr] at CR
    rw [if_neg (by simp)]
    clear hr
    go_enter Try.func9, Try.ntmps9
    go_wp2_with (first | (go_at_call 14; refine (CR.out).mono ?_; rintro e w2 ⟨rfl, hb2⟩))
    go_ret
    exact ⟨_, rfl, World.ownsRow_nil _ _ _ _, hb2⟩
  | true =>
    rw [hr] at CR
    have Hr := Lib.hid hr
    clear hr
    by_cases h1 : 1 ≤ n
    · rw [if_pos ⟨rfl, h1⟩]
      obtain ⟨n, rfl⟩ : ∃ k : Nat, n = k := ⟨n.toNat, by omega⟩
      rw [Int.toNat_natCast]
      have hmk : ∀ w' : World, (Instr.makeSlice 22 (.int .i64 (n : Int)) (.int .i64 (n : Int))).run Try.prog w' = .ok (.slice (some ⟨w'.heap.size, 0, none⟩) n n) (w'.alloc (.cells (madeCells #[.int .i64 0] n) 3)) :=
        run_make_row' 22 3 (.int .i64 0) 8 Try.underlying22 Try.info3 rfl .i64 .i64 n (by omega) (by omega)
      go_enter Try.func9, Try.ntmps9
      go_wp2_with (first | (go_at_call 14; refine (CR.out).mono ?_; rintro e w2 ⟨rfl, hb2⟩))
      go_loopw [24] (fun i wr => ∃ j : Nat, j ≤ m ∧ i = .int .i64 j ∧ wr.ownsRow w.heap.size 3 1 (.slice (some ⟨w2.heap.size, 0, none⟩) n n) n ((pagesN xs n j).map (Value.int .i64)) ∧ Below w.heap.size w wr) (fun i _ => m - (intOf i).toNat)
      case atStart => exact ⟨0, Nat.zero_le _, rfl, World.ownsRow.mono (made_zeros w2 n (by unfold maxLen; omega)) hb2.size, hb2.alloc hb2.size _⟩
      case round =>
        obtain ⟨j, hj, rfl, hown, hb⟩ := hrel
        by_cases hlt : j < m
        · obtain ⟨b, off, rfl, hbl, x, hx, c0, c1, c2⟩ := (H.out.below hb).at hlt
          obtain ⟨o1, o2, o3, o4, o5, o6, o7, o8⟩ := oneB_bounds (rightB_one Hr.out hx)
          have hstep := pagesN_at (n := n) hx
          clear hx
          have hpl := pagesN_len xs n j
          generalize pagesN xs n j = out at *
          have hsz : w.heap.size ≤ wr.heap.size := hb.size
          have hgr := hown.lt w2.heap.size rfl
          rcases x with ⟨xf, xl, xp⟩
          dsimp only at c0 c1 c2 o1 o2 o3 o4 o5 o6 o7 o8
          obtain ⟨f, rfl⟩ : ∃ f : Nat, xf = f := ⟨xf.toNat, by omega⟩
          obtain ⟨l, rfl⟩ : ∃ l : Nat, xl = l := ⟨xl.toNat, by omega⟩
          obtain ⟨p, rfl⟩ : ∃ p : Nat, xp = p := ⟨xp.toNat, by omega⟩
          by_cases hxn : (f : Int) < n
          · by_cases hxl : (l : Int) ≤ n - f
            · go_wp2
              have hc : cntE ⟨f, l, p⟩ n = l := by unfold cntE; dsimp only; omega
              rw [hc] at hstep
              have Hstep := Lib.hid hstep
              clear hstep hc
              go_loopw [36] (fun kk wk => ∃ k : Nat, k ≤ l ∧ kk = .int .i64 k ∧ wk.ownsRow w.heap.size 3 1 (.slice (some ⟨w2.heap.size, 0, none⟩) n n) n ((putK out ⟨f, l, p⟩ k).map (Value.int .i64)) ∧ wk.cell? ⟨wr.heap.size, 0, none⟩ = some (.int .i64 f) ∧ wk.cell? ⟨wr.heap.size, 2, none⟩ = some (.int .i64 p) ∧ Below w.heap.size w wk) (fun kk _ => l - (intOf kk).toNat)
              case atStart => exact ⟨0, Nat.zero_le _, rfl, hown.alloc _, by go_simp, by go_simp, hb.alloc hb.size _⟩
              case round =>
                obtain ⟨k, hk, rfl, hownk, q0, q2, hbk⟩ := hrel
                by_cases hlk : k < l
                · have hg := hownk.lt w2.heap.size rfl
                  have hpk := putK_len out ⟨f, l, p⟩ k
                  have hi0 : f + k < n := by omega
                  have hst := hownk.stored (f + k) (.int .i64 ((p : Int) + k))
                  rw [show ((putK out ⟨f, l, p⟩ k).map (Value.int .i64)).set (f + k) (.int .i64 ((p : Int) + k)) = (putK out ⟨f, l, p⟩ (k + 1)).map (Value.int .i64) by rw [putK_succ, List.map_set, Int.toNat_natCast]] at hst
                  have Hst := Lib.hid hst
                  have hfr := hownk.frozenAt (f + k)
                  have d1 : ∃ u, wr.cell? ⟨w2.heap.size, f + k, none⟩ = some u := ⟨_, (hownk.cellAt _ (by omega)).trans (List.getElem?_eq_getElem (by rw [List.length_map, hpk, hpl]; exact hi0))⟩
                  obtain ⟨u0, d1⟩ := d1
                  have hk0 : (0 : Int) ≤ (f : Int) + k := by omega
                  have hk1 : (f : Int) + k < n := by omega
                  have hk2 : (k : Int) < (l : Int) := by omega
                  clear hst hownk
                  go_wp2
                  go_roundw
                  case rel => exact ⟨k + 1, by omega, by go_num, Hst.out.1, Hst.out.2.cell q0 (by simp; omega), Hst.out.2.cell q2 (by simp; omega), hbk.grown Hst.out.2 hbk.size (fun i hi => by cases hi; exact hg.1)⟩
                  case measure => simp [intOf]; omega
                · have e : k = l := by omega
                  have hge : ¬ (k : Int) < (l : Int) := by omega
                  rw [e, ← Hstep.out] at hownk
                  have Hown := Lib.hid hownk
                  clear hownk e
                  go_wp2
                  go_roundw
                  case rel => exact ⟨j + 1, by omega, by go_num, Hown.out, hbk⟩
                  case measure => simp [intOf]; omega
            · go_wp2
              have hc : cntE ⟨f, l, p⟩ n = (n - f) := by unfold cntE; dsimp only; omega
              rw [hc] at hstep
              have Hstep := Lib.hid hstep
              clear hstep hc
              go_loopw [36] (fun kk wk => ∃ k : Nat, k ≤ (n - f) ∧ kk = .int .i64 k ∧ wk.ownsRow w.heap.size 3 1 (.slice (some ⟨w2.heap.size, 0, none⟩) n n) n ((putK out ⟨f, l, p⟩ k).map (Value.int .i64)) ∧ wk.cell? ⟨wr.heap.size, 0, none⟩ = some (.int .i64 f) ∧ wk.cell? ⟨wr.heap.size, 2, none⟩ = some (.int .i64 p) ∧ Below w.heap.size w wk) (fun kk _ => (n - f) - (intOf kk).toNat)
              case atStart => exact ⟨0, Nat.zero_le _, rfl, hown.alloc _, by go_simp, by go_simp, hb.alloc hb.size _⟩
              case round =>
                obtain ⟨k, hk, rfl, hownk, q0, q2, hbk⟩ := hrel
                by_cases hlk : k < (n - f)
                · have hg := hownk.lt w2.heap.size rfl
                  have hpk := putK_len out ⟨f, l, p⟩ k
                  have hi0 : f + k < n := by omega
                  have hst := hownk.stored (f + k) (.int .i64 ((p : Int) + k))
                  rw [show ((putK out ⟨f, l, p⟩ k).map (Value.int .i64)).set (f + k) (.int .i64 ((p : Int) + k)) = (putK out ⟨f, l, p⟩ (k + 1)).map (Value.int .i64) by rw [putK_succ, List.map_set, Int.toNat_natCast]] at hst
                  have Hst := Lib.hid hst
                  have hfr := hownk.frozenAt (f + k)
                  have d1 : ∃ u, wr.cell? ⟨w2.heap.size, f + k, none⟩ = some u := ⟨_, (hownk.cellAt _ (by omega)).trans (List.getElem?_eq_getElem (by rw [List.length_map, hpk, hpl]; exact hi0))⟩
                  obtain ⟨u0, d1⟩ := d1
                  have hk0 : (0 : Int) ≤ (f : Int) + k := by omega
                  have hk1 : (f : Int) + k < n := by omega
                  have hk2 : (k : Int) < (n : Int) - f := by omega
                  clear hst hownk
                  go_wp2
                  go_roundw
                  case rel => exact ⟨k + 1, by omega, by go_num, Hst.out.1, Hst.out.2.cell q0 (by simp; omega), Hst.out.2.cell q2 (by simp; omega), hbk.grown Hst.out.2 hbk.size (fun i hi => by cases hi; exact hg.1)⟩
                  case measure => simp [intOf]; omega
                · have e : k = (n - f) := by omega
                  have hge : ¬ (k : Int) < (n : Int) - f := by omega
                  rw [e, ← Hstep.out] at hownk
                  have Hown := Lib.hid hownk
                  clear hownk e
                  go_wp2
                  go_roundw
                  case rel => exact ⟨j + 1, by omega, by go_num, Hown.out, hbk⟩
                  case measure => simp [intOf]; omega
          · by_cases hxn2 : (n : Int) - f < 0
            · go_wp2
              have hc : cntE ⟨f, l, p⟩ n = 0 := by unfold cntE; dsimp only; omega
              rw [hc] at hstep
              have Hstep := Lib.hid hstep
              clear hstep hc
              go_loopw [36] (fun kk wk => ∃ k : Nat, k ≤ 0 ∧ kk = .int .i64 k ∧ wk.ownsRow w.heap.size 3 1 (.slice (some ⟨w2.heap.size, 0, none⟩) n n) n ((putK out ⟨f, l, p⟩ k).map (Value.int .i64)) ∧ wk.cell? ⟨wr.heap.size, 0, none⟩ = some (.int .i64 f) ∧ wk.cell? ⟨wr.heap.size, 2, none⟩ = some (.int .i64 p) ∧ Below w.heap.size w wk) (fun kk _ => 0 - (intOf kk).toNat)
              case atStart => exact ⟨0, Nat.zero_le _, rfl, hown.alloc _, by go_simp, by go_simp, hb.alloc hb.size _⟩
              case round =>
                obtain ⟨k, hk, rfl, hownk, q0, q2, hbk⟩ := hrel
                by_cases hlk : k < 0
                · exact absurd hlk (Nat.not_lt_zero _)
                · have e : k = 0 := by omega
                  have hge : ¬ (k : Int) < (0 : Int) := by omega
                  rw [e, ← Hstep.out] at hownk
                  have Hown := Lib.hid hownk
                  clear hownk e
                  go_wp2
                  go_roundw
                  case rel => exact ⟨j + 1, by omega, by go_num, Hown.out, hbk⟩
                  case measure => simp [intOf]; omega
            · have hxn3 : (n : Int) - f = 0 := by omega
              go_wp2
              have hc : cntE ⟨f, l, p⟩ n = 0 := by unfold cntE; dsimp only; omega
              rw [hc] at hstep
              have Hstep := Lib.hid hstep
              clear hstep hc
              go_loopw [36] (fun kk wk => ∃ k : Nat, k ≤ 0 ∧ kk = .int .i64 k ∧ wk.ownsRow w.heap.size 3 1 (.slice (some ⟨w2.heap.size, 0, none⟩) n n) n ((putK out ⟨f, l, p⟩ k).map (Value.int .i64)) ∧ wk.cell? ⟨wr.heap.size, 0, none⟩ = some (.int .i64 f) ∧ wk.cell? ⟨wr.heap.size, 2, none⟩ = some (.int .i64 p) ∧ Below w.heap.size w wk) (fun kk _ => 0 - (intOf kk).toNat)
              case atStart => exact ⟨0, Nat.zero_le _, rfl, hown.alloc _, by go_simp, by go_simp, hb.alloc hb.size _⟩
              case round =>
                obtain ⟨k, hk, rfl, hownk, q0, q2, hbk⟩ := hrel
                by_cases hlk : k < 0
                · exact absurd hlk (Nat.not_lt_zero _)
                · have e : k = 0 := by omega
                  have hge : ¬ (k : Int) < (0 : Int) := by omega
                  rw [e, ← Hstep.out] at hownk
                  have Hown := Lib.hid hownk
                  clear hownk e
                  go_wp2
                  go_roundw
                  case rel => exact ⟨j + 1, by omega, by go_num, Hown.out, hbk⟩
                  case measure => simp [intOf]; omega
        · have e : j = m := by omega
          have hge : ¬ (j : Int) < (m : Int) := by omega
          subst e
          have Hown := Lib.hid hown
          clear hlt hj hown
          go_wp2
          go_ret
          refine ⟨_, rfl, ?_, hb⟩
          unfold pagesL
          rw [pagesN_len, hl]
          exact Hown.out
    · rw [if_neg (fun h => h1 h.2)]
      go_enter Try.func9, Try.ntmps9
      go_wp2_with (first | (go_at_call 14; refine (CR.out).mono ?_; rintro e w2 ⟨rfl, hb2⟩))
      go_ret
      exact ⟨_, rfl, World.ownsRow_nil _ _ _ _, hb2⟩
end Go.Proofs.Ytefbhcpcbolbiaa
