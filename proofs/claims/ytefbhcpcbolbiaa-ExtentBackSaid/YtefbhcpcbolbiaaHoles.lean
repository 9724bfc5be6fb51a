/- Holes, walked: a contract. -/
import Derived.Test.YtefbhcpcbolbiaaClone
namespace Go.Proofs.Ytefbhcpcbolbiaa
open Go.RowKit

/-- The holes ahead of the first j extents, and where the next one would begin. -/
def holesN (ys : List E) (n : Int) : Nat → List E × Int
  | 0 => ([], 0)
  | j + 1 => match ys[j]? with
    | none => holesN ys n j
    | some x => (if 0 < min x.f n - (holesN ys n j).2 then (holesN ys n j).1 ++ [⟨(holesN ys n j).2, min x.f n - (holesN ys n j).2, 0⟩] else (holesN ys n j).1, max (holesN ys n j).2 (x.f + x.l))
def holesL (xs : List E) (n : Int) : List E := (holesN (xs ++ [⟨n, 0, 0⟩]) n (xs.length + 1)).1
theorem holesN_at {ys : List E} {n : Int} {j : Nat} {x : E} (h : ys[j]? = some x) : holesN ys n (j + 1) = (if 0 < min x.f n - (holesN ys n j).2 then (holesN ys n j).1 ++ [⟨(holesN ys n j).2, min x.f n - (holesN ys n j).2, 0⟩] else (holesN ys n j).1, max (holesN ys n j).2 (x.f + x.l)) := by
  show (match ys[j]? with | none => _ | some x => _) = _
  rw [h]
theorem holesN_bounds {ys : List E} {n : Int} (hb : ∀ y ∈ ys, 0 ≤ y.f ∧ 0 ≤ y.l ∧ y.f + y.l ≤ 1048576) (j : Nat) : (holesN ys n j).1.length ≤ j ∧ 0 ≤ (holesN ys n j).2 ∧ (holesN ys n j).2 ≤ 1048576 := by
  induction j with
  | zero => exact ⟨by simp [holesN], by simp [holesN], by simp [holesN]⟩
  | succ j ih =>
    obtain ⟨h1, h2, h3⟩ := ih
    cases hy : ys[j]? with
    | none =>
      have : holesN ys n (j + 1) = holesN ys n j := by show (match ys[j]? with | none => _ | some x => _) = _; rw [hy]
      rw [this]; omega
    | some x =>
      have hx := hb x (List.mem_of_getElem? hy)
      rw [holesN_at hy]
      refine ⟨?_, by dsimp only; omega, by dsimp only; omega⟩
      dsimp only
      split
      · rw [List.length_append, List.length_singleton]; omega
      · omega

theorem box_cells (w : World) (x : E) {B : Nat} (hB : B = w.heap.size) : ∀ j u, (cell3 x)[j]? = some u → (w.alloc (.cells #[.int .i64 x.f, .int .i64 x.l, .int .i64 x.p] 29)).cell? ((⟨B, 0, none⟩ : Addr).add j) = some u := by
  subst hB
  intro j u hu
  have hadd : ∀ k, (⟨w.heap.size, 0, none⟩ : Addr).add k = ⟨w.heap.size, k, none⟩ := fun k => by unfold Addr.add; split <;> simp_all
  rw [hadd]
  match j, hu with
  | 0, hu => cases hu; go_simp
  | 1, hu => cases hu; go_simp
  | 2, hu => cases hu; go_simp

theorem box_kept {w w' : World} {base c0 : Nat} {v : Value} {a : Addr} {u : Value} (hg : w.grownBy w' v.ownBlock) (hlt : ∀ k, v.ownBlock = some k → base ≤ k ∧ k < c0) (hc : c0 ≤ a.block) (h : w.cell? a = some u) : w'.cell? a = some u :=
  hg.cell h (fun e => by have := hlt _ e.symm; omega)

set_option maxRecDepth 100000 in
set_option maxHeartbeats 8000000 in
theorem holes_any {A : Option Addr} {m : Nat} {xs : List E} {w : World} (cap : Nat) (n : Int) (h : Exts w A m xs) (hn : A = none → cap = 0) (hm : m ≤ 400) (hn5 : n ≤ 500) : Calls Try.prog 19 #[.slice A m cap, .int .i64 n] w (RowOf w.heap.size (if rightB xs ∧ 1 ≤ n then holesL xs n else []) w) := by
  have CR := Lib.hid (right_any cap h (by unfold maxLen; omega))
  have H := Lib.hid h
  have hl : xs.length = m := h.1
  have Hl := Lib.hid hl
  have hxm : xs.length ≤ 400 := by omega
  have CC := Lib.hid (fun (w' : World) (hb : Below w.heap.size w w') => clone_any cap (h.below hb) hn hm)
  obtain ⟨i0, hi, hz0, hz1, hz2⟩ := info_parts Try.info29
  clear h hn hl
  cases hr : rightB xs with
  | false =>
    rw [hr] at CR
    rw [if_neg (by simp)]
    clear hr hi
    go_enter Try.func19, Try.ntmps19
    go_wp2_with (first | (go_at_call 14; refine (CR.out).mono ?_; rintro e w2 ⟨rfl, hb2⟩))
    go_ret
    exact ⟨_, rfl, World.ownsRow_nil _ _ _ _, hb2⟩
  | true =>
    rw [hr] at CR
    have Hr := Lib.hid hr
    by_cases h1 : 1 ≤ n
    · rw [if_pos ⟨rfl, h1⟩]
      have hyb : ∀ y ∈ xs ++ [⟨n, 0, 0⟩], 0 ≤ y.f ∧ 0 ≤ y.l ∧ y.f + y.l ≤ 1048576 := by
        intro y hy
        rw [List.mem_append, List.mem_singleton] at hy
        rcases hy with hy | rfl
        · have := oneB_bounds (rightB_mem hr hy); omega
        · dsimp only; omega
      have Hyb := Lib.hid hyb
      clear hr hyb
      go_enter Try.func19, Try.ntmps19
      go_wp2_with (first
        | (go_at_call 14; refine (CR.out).mono ?_; rintro e w2 ⟨rfl, hb2⟩)
        | (go_at_call 24; refine (CC.out _ hb2).mono ?_; rintro e w3 ⟨v3, rfl, hown3, hb3⟩; have hbA := hb2.trans (hb3.mono hb2.size); have Hown3 := Lib.hid (hown3.mono hb2.size); obtain ⟨X3, c3, rfl⟩ := own_slice hown3; clear hown3 hb3; have hszA := hbA.size)
        | (at_builtin; refine wpList_append_own _ rfl _ _ 23 rfl w.heap.size 29 i0 (.agg #[.int .i64 0, .int .i64 0, .int .i64 0]) 3 24 Try.underlying23 hi hz0 hz1 hz2 rfl (by decide) _ xs.length (cellsE xs) rfl (Hown3.out.alloc _) ⟨w3.heap.size, 0, none⟩ 1 1 (cell3 ⟨n, 0, 0⟩) rfl rfl ?c1 ?c2 ?c3 ?c4 ?c5 ?_))
      case c1 => exact box_cells _ ⟨n, 0, 0⟩ rfl
      case c2 => intro u hu; rcases List.mem_cons.1 hu with rfl | hu; rfl; rcases List.mem_cons.1 hu with rfl | hu; rfl; rcases List.mem_cons.1 hu with rfl | hu; rfl; cases hu
      case c3 => unfold maxLen; omega
      case c4 => omega
      case c5 => first | omega | (simp; omega)
      intro v' w6 hown6 hgrow6 _
      have hb6 := (hbA.alloc hbA.size (.cells #[.int .i64 n, .int .i64 0, .int .i64 0] 29)).grown hgrow6 (Nat.le_trans hbA.size (by simp)) (fun k hk => ((Hown3.out.alloc (.cells #[.int .i64 n, .int .i64 0, .int .i64 0] 29)).lt k hk).1)
      have hown7 := own_snoc hown6
      clear hown6
      obtain ⟨Y, cy, rfl⟩ := own_slice hown7
      have hyl : (xs ++ [(⟨n, 0, 0⟩ : E)]).length = m + 1 := by rw [List.length_append, List.length_singleton, Hl.out]
      rw [hyl] at hown7 ⊢
      have Hown7 := Lib.hid hown7
      have HY := Lib.hid (exts_of_row hown7)
      have hL : holesL xs n = (holesN (xs ++ [⟨n, 0, 0⟩]) n (m + 1)).1 := by unfold holesL; rw [Hl.out]
      have HL := Lib.hid hL
      clear hown7 hL Hown3 CC CR
      generalize xs ++ [(⟨n, 0, 0⟩ : E)] = ys at *
      go_wp2
      go_loopw [5, 6, 28] (fun v a c wr => ∃ j : Nat, j ≤ m + 1 ∧ c = .int .i64 j ∧ a = .int .i64 (holesN ys n j).2 ∧ wr.ownsRow w6.heap.size 29 3 v (holesN ys n j).1.length (cellsE (holesN ys n j).1) ∧ Below w6.heap.size w6 wr) (fun _ _ c _ => m + 1 - (intOf c).toNat)
      case atStart => exact ⟨0, Nat.zero_le _, rfl, rfl, World.ownsRow_nil _ _ _ _, Below.refl _ _⟩
      case round =>
        obtain ⟨j, hj, rfl, rfl, hown, hb⟩ := hrel
        obtain ⟨q1, q2, q3⟩ := holesN_bounds (n := n) Hyb.out j
        by_cases hlt : j < m + 1
        · obtain ⟨b, off, rfl, hbl, x, hx, c0, c1, c2⟩ := (HY.out.below hb).at hlt
          obtain ⟨o1, o2, o3⟩ := Hyb.out x (List.mem_of_getElem? hx)
          have hst := holesN_at (n := n) hx
          have hsz := hb.size
          generalize holesN ys n j = oa at *
          obtain ⟨out, at_⟩ := oa
          dsimp only at hst q1 q2 q3 hown
          have Hown := Lib.hid hown
          clear hx hown
          by_cases ha1 : x.f ≤ n
          · by_cases ha2 : 0 < x.f - at_
            · have hmin : min x.f n = x.f := by omega
              rw [hmin] at hst
              rw [if_pos ha2] at hst
              have Hst := Lib.hid hst
              clear hst hmin
              go_wp2_with (at_builtin; refine wpList_append_own _ rfl _ _ 23 rfl w6.heap.size 29 i0 (.agg #[.int .i64 0, .int .i64 0, .int .i64 0]) 3 24 Try.underlying23 hi hz0 hz1 hz2 rfl (by decide) _ out.length (cellsE out) rfl ((Hown.out.alloc _).alloc _) ⟨wr.heap.size + 1, 0, none⟩ 1 1 (cell3 ⟨at_, x.f - at_, 0⟩) rfl rfl ?c1 ?c2 ?c3 ?c4 ?c5 ?_)
              case c1 => intro j u hu; first | exact hu | exact box_cells (wr.alloc (.cells #[.int .i64 x.f, .int .i64 x.l, .int .i64 x.p] 29)) ⟨at_, x.f - at_, 0⟩ (by simp) j u hu
              case c2 => intro u hu; rcases List.mem_cons.1 hu with rfl | hu; rfl; rcases List.mem_cons.1 hu with rfl | hu; rfl; rcases List.mem_cons.1 hu with rfl | hu; rfl; cases hu
              case c3 => unfold maxLen; omega
              case c4 => omega
              case c5 => first | omega | (simp; omega)
              intro v8 w8 hown8 hgrow8 _
              have hb8 := ((hb.alloc hb.size (.cells #[.int .i64 x.f, .int .i64 x.l, .int .i64 x.p] 29)).alloc (Nat.le_trans hb.size (by simp)) (.cells #[.int .i64 at_, .int .i64 (x.f - at_), .int .i64 0] 29)).grown hgrow8 (Nat.le_trans hb.size (by simp; omega)) (fun k hk => (((Hown.out.alloc (.cells #[.int .i64 x.f, .int .i64 x.l, .int .i64 x.p] 29)).alloc (.cells #[.int .i64 at_, .int .i64 (x.f - at_), .int .i64 0] 29)).lt k hk).1)
              have Hown8 := Lib.hid (own_snoc hown8)
              clear hown8
              have e0 : w8.cell? ⟨wr.heap.size, 0, none⟩ = some (.int .i64 x.f) := box_kept hgrow8 Hown.out.lt (Nat.le_refl _) (by go_simp) 
              have e1 : w8.cell? ⟨wr.heap.size, 1, none⟩ = some (.int .i64 x.l) := box_kept hgrow8 Hown.out.lt (Nat.le_refl _) (by go_simp)
              by_cases ha3 : at_ ≤ x.f + x.l
              · have hmax : max at_ (x.f + x.l) = x.f + x.l := by omega
                rw [hmax] at Hst
                clear hmax
                clear hi hz0 hz1 hz2 hgrow6 hgrow8
                go_wp2
                go_roundw
                case rel => exact ⟨j + 1, by omega, by go_num, by rw [Hst.out]; first | done | exact congrArg (Value.int .i64) (by dsimp only; split <;> omega), by rw [Hst.out]; exact Hown8.out, hb8⟩
                case measure => simp [intOf]; omega
              · omega
            · have hmin : min x.f n = x.f := by omega
              rw [hmin] at hst
              rw [if_neg ha2] at hst
              have Hst := Lib.hid hst
              clear hst hmin
              by_cases ha3 : at_ ≤ x.f + x.l
              · have hmax : max at_ (x.f + x.l) = x.f + x.l := by omega
                rw [hmax] at Hst
                clear hmax
                clear hi hz0 hz1 hz2 hgrow6
                go_wp2
                go_roundw
                case rel => exact ⟨j + 1, by omega, by go_num, by rw [Hst.out]; first | done | exact congrArg (Value.int .i64) (by dsimp only; split <;> omega), by rw [Hst.out]; exact Hown.out.alloc _, hb.alloc hb.size _⟩
                case measure => simp [intOf]; omega
              · have hmax : max at_ (x.f + x.l) = at_ := by omega
                rw [hmax] at Hst
                clear hmax
                clear hi hz0 hz1 hz2 hgrow6
                go_wp2
                go_roundw
                case rel => exact ⟨j + 1, by omega, by go_num, by rw [Hst.out]; first | done | exact congrArg (Value.int .i64) (by dsimp only; split <;> omega), by rw [Hst.out]; exact Hown.out.alloc _, hb.alloc hb.size _⟩
                case measure => simp [intOf]; omega
          · by_cases ha2 : 0 < n - at_
            · have hmin : min x.f n = n := by omega
              rw [hmin] at hst
              rw [if_pos ha2] at hst
              have Hst := Lib.hid hst
              clear hst hmin
              go_wp2_with (at_builtin; refine wpList_append_own _ rfl _ _ 23 rfl w6.heap.size 29 i0 (.agg #[.int .i64 0, .int .i64 0, .int .i64 0]) 3 24 Try.underlying23 hi hz0 hz1 hz2 rfl (by decide) _ out.length (cellsE out) rfl ((Hown.out.alloc _).alloc _) ⟨wr.heap.size + 1, 0, none⟩ 1 1 (cell3 ⟨at_, n - at_, 0⟩) rfl rfl ?c1 ?c2 ?c3 ?c4 ?c5 ?_)
              case c1 => intro j u hu; first | exact hu | exact box_cells (wr.alloc (.cells #[.int .i64 x.f, .int .i64 x.l, .int .i64 x.p] 29)) ⟨at_, n - at_, 0⟩ (by simp) j u hu
              case c2 => intro u hu; rcases List.mem_cons.1 hu with rfl | hu; rfl; rcases List.mem_cons.1 hu with rfl | hu; rfl; rcases List.mem_cons.1 hu with rfl | hu; rfl; cases hu
              case c3 => unfold maxLen; omega
              case c4 => omega
              case c5 => first | omega | (simp; omega)
              intro v8 w8 hown8 hgrow8 _
              have hb8 := ((hb.alloc hb.size (.cells #[.int .i64 x.f, .int .i64 x.l, .int .i64 x.p] 29)).alloc (Nat.le_trans hb.size (by simp)) (.cells #[.int .i64 at_, .int .i64 (n - at_), .int .i64 0] 29)).grown hgrow8 (Nat.le_trans hb.size (by simp; omega)) (fun k hk => (((Hown.out.alloc (.cells #[.int .i64 x.f, .int .i64 x.l, .int .i64 x.p] 29)).alloc (.cells #[.int .i64 at_, .int .i64 (n - at_), .int .i64 0] 29)).lt k hk).1)
              have Hown8 := Lib.hid (own_snoc hown8)
              clear hown8
              have e0 : w8.cell? ⟨wr.heap.size, 0, none⟩ = some (.int .i64 x.f) := box_kept hgrow8 Hown.out.lt (Nat.le_refl _) (by go_simp) 
              have e1 : w8.cell? ⟨wr.heap.size, 1, none⟩ = some (.int .i64 x.l) := box_kept hgrow8 Hown.out.lt (Nat.le_refl _) (by go_simp)
              by_cases ha3 : at_ ≤ x.f + x.l
              · have hmax : max at_ (x.f + x.l) = x.f + x.l := by omega
                rw [hmax] at Hst
                clear hmax
                clear hi hz0 hz1 hz2 hgrow6 hgrow8
                go_wp2
                go_roundw
                case rel => exact ⟨j + 1, by omega, by go_num, by rw [Hst.out]; first | done | exact congrArg (Value.int .i64) (by dsimp only; split <;> omega), by rw [Hst.out]; exact Hown8.out, hb8⟩
                case measure => simp [intOf]; omega
              · omega
            · have hmin : min x.f n = n := by omega
              rw [hmin] at hst
              rw [if_neg ha2] at hst
              have Hst := Lib.hid hst
              clear hst hmin
              by_cases ha3 : at_ ≤ x.f + x.l
              · have hmax : max at_ (x.f + x.l) = x.f + x.l := by omega
                rw [hmax] at Hst
                clear hmax
                clear hi hz0 hz1 hz2 hgrow6
                go_wp2
                go_roundw
                case rel => exact ⟨j + 1, by omega, by go_num, by rw [Hst.out]; first | done | exact congrArg (Value.int .i64) (by dsimp only; split <;> omega), by rw [Hst.out]; exact Hown.out.alloc _, hb.alloc hb.size _⟩
                case measure => simp [intOf]; omega
              · have hmax : max at_ (x.f + x.l) = at_ := by omega
                rw [hmax] at Hst
                clear hmax
                clear hi hz0 hz1 hz2 hgrow6
                go_wp2
                go_roundw
                case rel => exact ⟨j + 1, by omega, by go_num, by rw [Hst.out]; first | done | exact congrArg (Value.int .i64) (by dsimp only; split <;> omega), by rw [Hst.out]; exact Hown.out.alloc _, hb.alloc hb.size _⟩
                case measure => simp [intOf]; omega
        · have e : j = m + 1 := by omega
          have hge : ¬ (j : Int) < ((m + 1 : Nat) : Int) := by omega
          have Hown := Lib.hid (hown.mono hb6.size)
          have hbF := hb6.trans (hb.mono hb6.size)
          subst e
          clear hlt hj hown
          go_wp2
          go_ret
          refine ⟨_, rfl, ?_, hbF⟩
          rw [HL.out]
          exact Hown.out
    · rw [if_neg (fun h => h1 h.2)]
      clear hr hi
      go_enter Try.func19, Try.ntmps19
      go_wp2_with (first | (go_at_call 14; refine (CR.out).mono ?_; rintro e w2 ⟨rfl, hb2⟩))
      go_ret
      exact ⟨_, rfl, World.ownsRow_nil _ _ _ _, hb2⟩
end Go.Proofs.Ytefbhcpcbolbiaa
