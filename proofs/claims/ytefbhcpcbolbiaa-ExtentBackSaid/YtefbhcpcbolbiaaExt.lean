/- The extents of pages, by the reference. -/
import Derived.Test.YtefbhcpcbolbiaaOf
namespace Go.Proofs.Ytefbhcpcbolbiaa
open Go.RowKit

/-- What the page at j does to the extents ahead. -/
def extStep (ps : List Int) (j : Nat) (p : Int) (xs : List E) : List E :=
  if p ≤ 0 then xs else
    match xs.getLast?, ps[j - 1]? with
    | some a, some q => if 0 < j ∧ 0 < q ∧ q = wrap64 (p - 1) then xs.set (xs.length - 1) { a with l := wrap64 (a.l + 1) } else xs ++ [⟨j, 1, p⟩]
    | _, _ => xs ++ [⟨j, 1, p⟩]
def extN (ps : List Int) : Nat → List E
  | 0 => []
  | j + 1 => match ps[j]? with
    | none => extN ps j
    | some p => extStep ps j p (extN ps j)
def extL (ps : List Int) : List E := extN ps ps.length

theorem extStep_len (ps : List Int) (j : Nat) (p : Int) (xs : List E) : (extStep ps j p xs).length ≤ xs.length + 1 := by
  unfold extStep
  split
  · omega
  · split
    · split
      · rw [List.length_set]; omega
      · simp
    · simp
theorem extN_len (ps : List Int) : ∀ j, (extN ps j).length ≤ j := by
  intro j
  induction j with
  | zero => simp [extN]
  | succ j ih =>
    unfold extN
    split
    · omega
    · exact Nat.le_trans (extStep_len _ _ _ _) (by omega)
theorem extN_at {ps : List Int} {j : Nat} {p : Int} (h : ps[j]? = some p) : extN ps (j + 1) = extStep ps j p (extN ps j) := by
  show (match ps[j]? with | none => _ | some p => _) = _
  rw [h]

theorem own_slice {base e size : Nat} {w : World} {v : Value} {n : Nat} {xs : List Value} (h : w.ownsRow base e size v n xs) : ∃ A c, v = .slice A n c := by
  rcases h.2 with ⟨rfl, h⟩ | ⟨g, cap, cur, rfl, _⟩
  · exact ⟨none, 0, by subst_vars; rfl⟩
  · exact ⟨_, _, rfl⟩
theorem own_snoc {base : Nat} {xs : List E} {x : E} {w : World} {v : Value} (h : w.ownsRow base 29 3 v (xs.length + 1) (cellsE xs ++ cell3 x)) : w.ownsRow base 29 3 v (xs ++ [x]).length (cellsE (xs ++ [x])) := by
  rw [cellsE_append, List.length_append]
  have e : cellsE [x] = cell3 x := by simp [cellsE]
  rw [e]
  exact h

set_option maxRecDepth 100000 in
set_option maxHeartbeats 4000000 in
theorem extents_any {A : Option Addr} {n : Nat} {ps : List Int} {w : World} (cap : Nat) (h : Ints w A n ps) (hm : n ≤ 1000) : Calls Try.prog 13 #[.slice A n cap] w (RowOf w.heap.size (extL ps) w) := by
  have H := Lib.hid h
  have hl : ps.length = n := h.1
  obtain ⟨i0, hi, hz0, hz1, hz2⟩ := info_parts Try.info29
  clear h
  go_enter Try.func13, Try.ntmps13
  go_wp2
  go_loopw [3, 9] (fun v i wr => ∃ j : Nat, j ≤ n ∧ i = .int .i64 j ∧ wr.ownsRow w.heap.size 29 3 v (extN ps j).length (cellsE (extN ps j)) ∧ Below w.heap.size w wr) (fun _ i _ => n - (intOf i).toNat)
  case atStart => exact ⟨0, Nat.zero_le _, rfl, World.ownsRow_nil _ _ _ _, Below.refl _ _⟩
  case round =>
    obtain ⟨j, hj, rfl, hown, hb⟩ := hrel
    obtain ⟨B, c, rfl⟩ := own_slice hown
    have hsz := hb.size
    by_cases hlt : j < n
    · obtain ⟨b, off, rfl, hbl, p, hx, c0⟩ := (H.out.below hb).at hlt
      have Hx := Lib.hid hx
      have hlen := extN_len ps j
      have hstep := extN_at hx
      clear hx
      generalize extN ps j = xs at *
      by_cases hp : p ≤ 0
      · have hst : extN ps (j + 1) = xs := by rw [hstep]; exact if_pos hp
        have Hst := Lib.hid hst
        have Hown := Lib.hid hown
        clear hst hstep hown
        go_wp2
        go_roundw
        case rel => exact ⟨j + 1, by omega, by go_num, by rw [Hst.out]; exact Hown.out, hb⟩
        case measure => simp [intOf]; omega
      · by_cases hj0 : j = 0
        · have hxs : xs = [] := List.length_eq_zero_iff.1 (by omega)
          have hst : extN ps (j + 1) = xs ++ [⟨j, 1, p⟩] := by rw [hstep]; unfold extStep; rw [if_neg hp, hxs]; rfl
          clear hxs
          have hj1 : ¬ (0 : Int) < (j : Int) := by omega
          clear hj0
          have Hst := Lib.hid hst
          have Hown := Lib.hid hown
          clear hst hstep hown
          go_wp2_with (at_builtin; refine wpList_append_own _ rfl _ _ 23 rfl w.heap.size 29 i0 (.agg #[.int .i64 0, .int .i64 0, .int .i64 0]) 3 24 Try.underlying23 hi hz0 hz1 hz2 rfl (by decide) _ xs.length (cellsE xs) rfl (Hown.out.alloc _) ⟨wr.heap.size, 0, none⟩ 1 1 (cell3 ⟨j, 1, p⟩) rfl rfl ?c1 ?c2 ?c3 ?c4 ?c5 ?_)
          case c1 => exact fun j u h => h
          case c2 => intro u hu; rcases List.mem_cons.1 hu with rfl | hu; rfl; rcases List.mem_cons.1 hu with rfl | hu; rfl; rcases List.mem_cons.1 hu with rfl | hu; rfl; cases hu
          case c3 => unfold maxLen; omega
          case c4 => omega
          case c5 => omega
          intro v' w6 hown6 hgrow6 _
          have hb6 := (hb.alloc hb.size (.cells #[.int .i64 j, .int .i64 1, .int .i64 p] 29)).grown hgrow6 (Nat.le_trans hb.size (by simp)) (fun k hk => ((Hown.out.alloc (.cells #[.int .i64 j, .int .i64 1, .int .i64 p] 29)).lt k hk).1)
          have Hown6 := Lib.hid hown6
          clear hown6
          go_wp2
          go_roundw
          case rel => exact ⟨j + 1, by omega, by go_num, by rw [Hst.out]; exact own_snoc Hown6.out, hb6⟩
          case measure => simp [intOf]; omega
        · by_cases hxs : xs.length = 0
          · have hxs1 : xs = [] := List.length_eq_zero_iff.1 hxs
            have hst : extN ps (j + 1) = xs ++ [⟨j, 1, p⟩] := by rw [hstep]; unfold extStep; rw [if_neg hp, hxs1]; rfl
            have hs1 : ¬ (1 : Int) ≤ (xs.length : Int) := by omega
            clear hxs1
            have hj1 : (0 : Int) < (j : Int) := by omega
            have hlen0 : xs.length ≤ 1000 := by omega
            clear hxs hj0
            have Hst := Lib.hid hst
            have Hown := Lib.hid hown
            clear hst hstep hown
            go_wp2_with (at_builtin; refine wpList_append_own _ rfl _ _ 23 rfl w.heap.size 29 i0 (.agg #[.int .i64 0, .int .i64 0, .int .i64 0]) 3 24 Try.underlying23 hi hz0 hz1 hz2 rfl (by decide) _ xs.length (cellsE xs) rfl (Hown.out.alloc _) ⟨wr.heap.size, 0, none⟩ 1 1 (cell3 ⟨j, 1, p⟩) rfl rfl ?c1 ?c2 ?c3 ?c4 ?c5 ?_)
            case c1 => exact fun j u h => h
            case c2 => intro u hu; rcases List.mem_cons.1 hu with rfl | hu; rfl; rcases List.mem_cons.1 hu with rfl | hu; rfl; rcases List.mem_cons.1 hu with rfl | hu; rfl; cases hu
            case c3 => unfold maxLen; omega
            case c4 => omega
            case c5 => omega
            intro v' w6 hown6 hgrow6 _
            have hb6 := (hb.alloc hb.size (.cells #[.int .i64 j, .int .i64 1, .int .i64 p] 29)).grown hgrow6 (Nat.le_trans hb.size (by simp)) (fun k hk => ((Hown.out.alloc (.cells #[.int .i64 j, .int .i64 1, .int .i64 p] 29)).lt k hk).1)
            have Hown6 := Lib.hid hown6
            clear hown6
            go_wp2
            go_roundw
            case rel => exact ⟨j + 1, by omega, by go_num, by rw [Hst.out]; exact own_snoc Hown6.out, hb6⟩
            case measure => simp [intOf]; omega
          · obtain ⟨k, hk⟩ : ∃ k, xs.length = k + 1 := ⟨xs.length - 1, by omega⟩
            have hkx : k < xs.length := by omega
            obtain ⟨a, ha⟩ : ∃ a, xs[k]? = some a := ⟨xs[k], List.getElem?_eq_getElem hkx⟩
            have hlast : xs.getLast? = some a := by rw [List.getLast?_eq_getElem?, hk, Nat.add_sub_cancel]; exact ha
            obtain ⟨b2, off2, e2, hbl2, q, hq, c1⟩ := (H.out.below hb).at (show j - 1 < n by omega)
            cases e2
            have hstep1 : extN ps (j + 1) = if 0 < j ∧ 0 < q ∧ q = wrap64 (p - 1) then xs.set k { a with l := wrap64 (a.l + 1) } else xs ++ [⟨j, 1, p⟩] := by
              rw [hstep]; unfold extStep; rw [if_neg hp, hlast, hq, hk, Nat.add_sub_cancel]
            have hs1 : (1 : Int) ≤ (xs.length : Int) := by omega
            have hs2 : (xs.length : Int) - 1 = k := by omega
            have hj1 : (0 : Int) < (j : Int) := by omega
            have hj2 : 0 < j := by omega
            have Hq := Lib.hid hq
            have Ha := Lib.hid ha
            have Hk := Lib.hid hk
            clear hstep hlast hq ha hj0 hxs
            have hlen0 : xs.length ≤ 1000 := by omega
            by_cases hq0 : 0 < q
            · by_cases hq1 : q = wrap64 (p - 1)
              · have hst : extN ps (j + 1) = xs.set k { a with l := wrap64 (a.l + 1) } := by rw [hstep1, if_pos ⟨hj2, hq0, hq1⟩]
                have hq2 : (q == wrap64 (p - 1)) = true := by rw [beq_iff_eq]; exact hq1
                clear hq1
                obtain ⟨g, rfl⟩ : ∃ g, B = some ⟨g, 0, none⟩ := by
                  rcases hown.2 with ⟨_, h⟩ | ⟨g, cap, cur, e, _⟩
                  · omega
                  · cases e; exact ⟨g, rfl⟩
                have hg := hown.lt g rfl
                obtain ⟨f0, f1, f2⟩ := cellsE_at xs k a Ha.out
                have d1 : wr.cell? ⟨g, k * 3 + 1, none⟩ = some (.int .i64 a.l) := by rw [hown.cellAt _ (by omega)]; exact f1
                have hs := cellsE_set xs k a (wrap64 (a.l + 1)) Ha.out
                have hst2 := hown.stored (k * 3 + 1) (.int .i64 (wrap64 (a.l + 1)))
                rw [hs, ← hst] at hst2
                have hlen2 : (extN ps (j + 1)).length = xs.length := by rw [hst, List.length_set]
                have Hst := Lib.hid hst2
                have Hlen := Lib.hid hlen2
                have hfr := hown.frozenAt (k * 3 + 1)
                have hk0 : (0 : Int) ≤ (k : Int) := by omega
                have hk1 : (k : Int) < (xs.length : Int) := by omega
                clear hs hst2 hlen2 hst hstep1 hown f0 f1 f2 hk
                go_wp2
                go_roundw
                case rel => exact ⟨j + 1, by omega, by go_num, by rw [Hlen.out]; exact Hst.out.1, hb.grown Hst.out.2 hb.size (fun k hk => by cases hk; exact hg.1)⟩
                case measure => simp [intOf]; omega
              · have hst : extN ps (j + 1) = xs ++ [⟨j, 1, p⟩] := by rw [hstep1, if_neg (fun h => hq1 h.2.2)]
                have hq2 : (q == wrap64 (p - 1)) = false := by rw [beq_eq_false_iff_ne]; exact hq1
                have hstep := Lib.hid hstep1
                clear hstep1 hq1 hk hs2

                have Hst := Lib.hid hst
                have Hown := Lib.hid hown
                clear hst hstep hown
                go_wp2_with (at_builtin; refine wpList_append_own _ rfl _ _ 23 rfl w.heap.size 29 i0 (.agg #[.int .i64 0, .int .i64 0, .int .i64 0]) 3 24 Try.underlying23 hi hz0 hz1 hz2 rfl (by decide) _ xs.length (cellsE xs) rfl (Hown.out.alloc _) ⟨wr.heap.size, 0, none⟩ 1 1 (cell3 ⟨j, 1, p⟩) rfl rfl ?c1 ?c2 ?c3 ?c4 ?c5 ?_)
                case c1 => exact fun j u h => h
                case c2 => intro u hu; rcases List.mem_cons.1 hu with rfl | hu; rfl; rcases List.mem_cons.1 hu with rfl | hu; rfl; rcases List.mem_cons.1 hu with rfl | hu; rfl; cases hu
                case c3 => unfold maxLen; omega
                case c4 => omega
                case c5 => omega
                intro v' w6 hown6 hgrow6 _
                have hb6 := (hb.alloc hb.size (.cells #[.int .i64 j, .int .i64 1, .int .i64 p] 29)).grown hgrow6 (Nat.le_trans hb.size (by simp)) (fun k hk => ((Hown.out.alloc (.cells #[.int .i64 j, .int .i64 1, .int .i64 p] 29)).lt k hk).1)
                have Hown6 := Lib.hid hown6
                clear hown6
                go_wp2
                go_roundw
                case rel => exact ⟨j + 1, by omega, by go_num, by rw [Hst.out]; exact own_snoc Hown6.out, hb6⟩
                case measure => simp [intOf]; omega
            · have hst : extN ps (j + 1) = xs ++ [⟨j, 1, p⟩] := by rw [hstep1, if_neg (fun h => hq0 h.2.1)]
              have hstep := Lib.hid hstep1
              clear hstep1 hk hs2

              have Hst := Lib.hid hst
              have Hown := Lib.hid hown
              clear hst hstep hown
              go_wp2_with (at_builtin; refine wpList_append_own _ rfl _ _ 23 rfl w.heap.size 29 i0 (.agg #[.int .i64 0, .int .i64 0, .int .i64 0]) 3 24 Try.underlying23 hi hz0 hz1 hz2 rfl (by decide) _ xs.length (cellsE xs) rfl (Hown.out.alloc _) ⟨wr.heap.size, 0, none⟩ 1 1 (cell3 ⟨j, 1, p⟩) rfl rfl ?c1 ?c2 ?c3 ?c4 ?c5 ?_)
              case c1 => exact fun j u h => h
              case c2 => intro u hu; rcases List.mem_cons.1 hu with rfl | hu; rfl; rcases List.mem_cons.1 hu with rfl | hu; rfl; rcases List.mem_cons.1 hu with rfl | hu; rfl; cases hu
              case c3 => unfold maxLen; omega
              case c4 => omega
              case c5 => omega
              intro v' w6 hown6 hgrow6 _
              have hb6 := (hb.alloc hb.size (.cells #[.int .i64 j, .int .i64 1, .int .i64 p] 29)).grown hgrow6 (Nat.le_trans hb.size (by simp)) (fun k hk => ((Hown.out.alloc (.cells #[.int .i64 j, .int .i64 1, .int .i64 p] 29)).lt k hk).1)
              have Hown6 := Lib.hid hown6
              clear hown6
              go_wp2
              go_roundw
              case rel => exact ⟨j + 1, by omega, by go_num, by rw [Hst.out]; exact own_snoc Hown6.out, hb6⟩
              case measure => simp [intOf]; omega
    · have e : j = n := by omega
      have hge : ¬ (j : Int) < (n : Int) := by omega
      have Hown := Lib.hid hown
      clear hlt hj hown
      go_wp2
      go_ret
      refine ⟨_, rfl, ?_, hb⟩
      unfold extL
      rw [hl, ← e]
      exact Hown.out
end Go.Proofs.Ytefbhcpcbolbiaa
