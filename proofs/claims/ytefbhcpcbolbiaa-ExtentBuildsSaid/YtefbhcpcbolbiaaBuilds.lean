/- ExtentBuilds, walked: pages that are put one by one, in any order, come to the extents of all. -/
import Derived.Test.YtefbhcpcbolbiaaCut
import Derived.Test.YtefbhcpcbolbiaaSame
namespace Go.Proofs.Ytefbhcpcbolbiaa
open Go.RowKit

theorem extL_zeros (n : Nat) : extL (List.replicate n 0) = [] := by
  have h : ∀ j, extN (List.replicate n 0) j = [] := by
    intro j
    induction j with
    | zero => rfl
    | succ j ih =>
      unfold extN
      split
      · exact ih
      · rename_i p hp
        have : p = 0 := by
          have := List.mem_of_getElem? hp
          exact (List.mem_replicate.1 this).2
        subst this
        rw [ih]; rfl
  exact h _

theorem own_ne {w : World} {base : Nat} {e : TypeId} {size : Nat} {v : Value} {n : Nat} {xs : List Value} (h : w.ownsRow base e size v n xs) {c : Nat} (hc : c < base) : v.ownBlock = none ∨ v.ownBlock ≠ some c := by
  cases hv : v.ownBlock with
  | none => exact .inl rfl
  | some k => right; intro e; cases e; have := h.lt _ hv; omega

/-- What the loop keeps: the numbers so far, their extents. -/
def NowIs (w wr : World) (np g : Nat) (v : Value) (now : List Int) : Prop :=
  now.length = np ∧ (∀ q ∈ now, 0 ≤ q ∧ q < 1048576) ∧ wr.ownsRow w.heap.size 29 3 v (extL now).length (cellsE (extL now)) ∧ wr.ownsRow w.heap.size 3 1 (.slice (some ⟨g, 0, none⟩) np np) np (now.map (Value.int .i64)) ∧ (v.ownBlock = none ∨ v.ownBlock ≠ some g) ∧ Below w.heap.size w wr

theorem ints_of_row {w : World} {base n c g : Nat} {zs : List Int} (hl : zs.length = n) (h : w.ownsRow base 3 1 (.slice (some ⟨g, 0, none⟩) n c) n (zs.map (Value.int .i64))) : Ints w (some ⟨g, 0, none⟩) n zs := by
  refine ⟨hl, .inr ⟨g, 0, rfl, (h.lt g rfl).2, fun i hi => ?_⟩⟩
  rw [Nat.zero_add, h.cellAt _ (by omega), List.getElem?_map, List.getElem?_eq_getElem hi]; rfl

theorem own_cell {w : World} {base n c g : Nat} {zs : List Int} (h : w.ownsRow base 3 1 (.slice (some ⟨g, 0, none⟩) n c) n (zs.map (Value.int .i64))) {m : Nat} (hm : m < n) : ∃ u, w.cell? ⟨g, m, none⟩ = some u := by
  have hl := h.1
  rw [List.length_map] at hl
  exact ⟨_, (h.cellAt m (by omega)).trans (List.getElem?_eq_getElem (by rw [List.length_map]; omega))⟩

theorem own_set {w : World} {base n c g : Nat} {zs : List Int} (h : w.ownsRow base 3 1 (.slice (some ⟨g, 0, none⟩) n c) n (zs.map (Value.int .i64))) (m : Nat) (p : Int) :
    (w.setCell ⟨g, m, none⟩ (.int .i64 p)).ownsRow base 3 1 (.slice (some ⟨g, 0, none⟩) n c) n ((zs.set m p).map (Value.int .i64)) ∧ w.grownBy (w.setCell ⟨g, m, none⟩ (.int .i64 p)) (some g) := by
  rw [List.map_set]; exact h.stored m _

theorem ext_right {ps : List Int} (hb : ∀ p ∈ ps, 0 ≤ p ∧ p < 1048576) (hm : ps.length ≤ 1000) : rightB (extL ps) = true := by
  rw [← of_is_ext (fun q hq => by have := hb q hq; omega) hm]
  exact (ofL_good hb hm).1

set_option maxRecDepth 100000 in
set_option maxHeartbeats 8000000 in
theorem builds_walk {A B : Option Addr} {np no : Nat} {ps os : List Int} {w : World} (cp co : Nat) (hp : Ints w A np ps) (ho : Ints w B no os) (mo : no ≤ maxLen) (mp : np ≤ maxLen) : Calls Try.prog 4 #[.slice A np cp, .slice B no co] w fun e w' => e = .returned (.bool true) ∧ Below w.heap.size w w' := by
  have CA := Lib.hid (awake_any w)
  have HP := Lib.hid hp
  have HO := Lib.hid ho
  have hlp := hp.1
  have hlo := ho.1
  unfold maxLen at mo mp
  clear hp ho
  by_cases hnp : (40 : Int) < np
  · go_enter Try.func4, Try.ntmps4
    go_wp2_with (first | (go_at_call 6; refine (CA.out).mono ?_; rintro e w1 ⟨rfl, hb1⟩))
    go_ret
    exact ⟨rfl, hb1⟩
  · by_cases hno : (60 : Int) < no
    · go_enter Try.func4, Try.ntmps4
      go_wp2_with (first | (go_at_call 6; refine (CA.out).mono ?_; rintro e w1 ⟨rfl, hb1⟩))
      go_ret
      exact ⟨rfl, hb1⟩
    · go_enter Try.func4, Try.ntmps4
      go_wp2_with (first | (go_at_call 6; refine (CA.out).mono ?_; rintro e w1 ⟨rfl, hb1⟩))
      go_loopw [23] (fun c wr => ∃ j : Nat, j ≤ np ∧ c = .int .i64 j ∧ (∀ k q, k < j → ps[k]? = some q → 0 ≤ q ∧ q < 1048576) ∧ Below w.heap.size w wr) (fun c _ => np - (intOf c).toNat)
      case atStart => exact ⟨0, Nat.zero_le _, rfl, fun k q hk => absurd hk (Nat.not_lt_zero _), hb1⟩
      case round =>
        obtain ⟨j, hj, rfl, hall, hb⟩ := hrel
        have Hall := Lib.hid hall
        clear hall
        by_cases hlt : j < np
        · obtain ⟨b, off, rfl, hbl, p, hx, c0⟩ := (HP.out.below hb).at hlt
          have Hx := Lib.hid hx
          clear hx
          by_cases h0 : p < 0
          · go_wp2
            go_ret
            exact ⟨rfl, hb⟩
          · by_cases h1 : 1048576 ≤ p
            · go_wp2
              go_ret
              exact ⟨rfl, hb⟩
            · have hs : ∀ k q, k < j + 1 → ps[k]? = some q → 0 ≤ q ∧ q < 1048576 := by
                intro k q hk hq
                rcases Nat.lt_succ_iff_lt_or_eq.1 hk with h | rfl
                · exact Hall.out k q h hq
                · rw [Hx.out] at hq; cases hq; omega
              have Hs := Lib.hid hs
              clear hs
              go_wp2
              go_roundw
              case rel => exact ⟨j + 1, by omega, by go_num, Hs.out, hb⟩
              case measure => simp [intOf]; omega
        · have e : j = np := by omega
          have hge : ¬ (j : Int) < (np : Int) := by omega
          have hin : ∀ q ∈ ps, 0 ≤ q ∧ q < 1048576 := by
            intro q hq
            obtain ⟨k, hk⟩ := List.getElem?_of_mem hq
            exact Hall.out k q (by have := (List.getElem?_eq_some_iff.1 hk).1; omega) hk
          have Hin := Lib.hid hin
          have hmk : ∀ w' : World, (Instr.makeSlice 22 (.int .i64 (np : Int)) (.int .i64 (np : Int))).run Try.prog w' = .ok (.slice (some ⟨w'.heap.size, 0, none⟩) np np) (w'.alloc (.cells (madeCells #[.int .i64 0] np) 3)) :=
            run_make_row' 22 3 (.int .i64 0) 8 Try.underlying22 Try.info3 rfl .i64 .i64 np (by omega) (by omega)
          clear e hlt hj hin Hall CA
          go_wp2
          have hsz := hb.size
          have hmz := made_zeros wr np (by unfold maxLen; omega)
          have hz0 := extL_zeros np
          have hst : NowIs w (wr.alloc (.cells (madeCells #[.int .i64 0] np) 3)) np wr.heap.size (.slice none 0 0) (List.replicate np 0) := by
            refine ⟨by simp, fun q hq => by rw [(List.mem_replicate.1 hq).2]; omega, ?_, hmz.mono hsz, .inl rfl, hb.alloc hsz _⟩
            rw [hz0]; exact World.ownsRow_nil _ _ _ _
          have Hst := Lib.hid hst
          clear hst hz0 hmz hmk
          have hgz : w.heap.size ≤ wr.heap.size := hsz
          generalize wr.heap.size = g at *
          go_loopw [7, 39] (fun v c wx => ∃ (j : Nat) (now : List Int), j ≤ no ∧ c = .int .i64 j ∧ NowIs w wx np g v now) (fun _ c _ => no - (intOf c).toNat)
          case atStart => exact ⟨0, _, Nat.zero_le _, rfl, Hst.out⟩
          case round =>
            obtain ⟨j, now, hj, rfl, hst⟩ := hrel
            have HN := Lib.hid hst
            obtain ⟨hnl, hnr, hown, hrow, hne, hbx⟩ := hst
            obtain ⟨X, c, rfl⟩ := own_slice hown
            have hlen : (extL now).length ≤ 40 := by have := extN_len now now.length; unfold extL; omega
            have hright := ext_right hnr (by omega)
            clear Hst
            by_cases hlt : j < no
            · obtain ⟨b, off, rfl, hbl, i, hx, c0⟩ := (HO.out.below hbx).at hlt
              by_cases hi0 : i < 0
              · clear hx hown hrow hne hnr
                go_wp2
                go_roundw
                case rel => exact ⟨j + 1, now, by omega, by go_num, HN.out⟩
                case measure => simp [intOf]; omega
              · by_cases hi1 : (np : Int) ≤ i
                · clear hx hown hrow hne hnr
                  go_wp2
                  go_roundw
                  case rel => exact ⟨j + 1, now, by omega, by go_num, HN.out⟩
                  case measure => simp [intOf]; omega
                · obtain ⟨m, rfl⟩ : ∃ m : Nat, i = m := ⟨i.toNat, by omega⟩
                  have hmn : m < np := by omega
                  obtain ⟨b2, off2, rfl, hbl2, p, hy, d0⟩ := (HP.out.below hbx).at hmn
                  have hpr := Hin.out p (List.mem_of_getElem? hy)
                  have hput := put_of hnr (by omega) (show m < now.length by omega) hpr
                  have hset : (now.set m p).length = np := by rw [List.length_set]; exact hnl
                  have hnr2 : ∀ q ∈ now.set m p, 0 ≤ q ∧ q < 1048576 := by
                    intro q hq
                    rcases List.mem_or_eq_of_mem_set hq with h | rfl
                    · exact hnr q h
                    · exact hpr
                  have hlen2 : (extL (now.set m p)).length ≤ 40 := by have := extN_len (now.set m p) (now.set m p).length; unfold extL; omega
                  have hgx : g < wr.heap.size := (hrow.lt g rfl).2
                  have CP := Lib.hid (put_any c (m : Int) p (exts_of_row hown) (by omega) hright (by omega) hpr)
                  rw [hput] at CP
                  have Hrow := Lib.hid hrow
                  have Hnr2 := Lib.hid hnr2
                  have Hset := Lib.hid hset
                  obtain ⟨hp0, hp1⟩ := hpr
                  clear hx hown hrow hne hnr hput hnr2 hset hright hy HN hnl
                  go_wp2_with (first
                    | (go_at_call 17; refine (CP.out).mono ?_; rintro e w5 ⟨v5, rfl, hown5, hb5⟩; obtain ⟨X5, c5, rfl⟩ := own_slice hown5; have Hn5 := Hrow.out.belowK hb5; have d5 : w5.cell? ⟨b2, off2 + m, none⟩ = some (.int .i64 p) := (hb5.cell hbl2).trans d0; have hfr := Hn5.frozenAt m; obtain ⟨u0, hu0⟩ : ∃ u, w5.cell? ⟨g, m, none⟩ = some u := own_cell Hn5 (by omega); have Hs5 := Lib.hid (own_set Hn5 m p); have Hk5 := Lib.hid (own_ne hown5 hgx); have Ho5 := Lib.hid (hown5.mono hbx.size); have Ho5b := Lib.hid hown5; have hb5w := hbx.trans (hb5.mono hbx.size); have hb6w := hb5w.grown Hs5.out.2 hb5w.size (fun i hi => by cases hi; exact hgz); clear hown5 Hn5)
                    | (go_at_call 13; refine (extents_any np (ints_of_row Hset.out Hs5.out.1) (by omega)).mono ?_; rintro e w7 ⟨v7, rfl, hown7, hb7⟩; obtain ⟨X7, c7, rfl⟩ := own_slice hown7; have hb7w := hb6w.trans (hb7.mono hb6w.size); have ex5 := exts_of_row ((Ho5b.out.kept Hs5.out.2 Hk5.out).belowK hb7); have ex7 := exts_of_row hown7; have Hl7 := Lib.hid ((Ho5.out.kept Hs5.out.2 Hk5.out).belowK hb7); have Hr7 := Lib.hid (Hs5.out.1.belowK hb7); clear hown7 hb7)
                    | (go_at_call 11; refine (same_any _ _ ex5 ex7 (by unfold maxLen; omega) (by unfold maxLen; omega)).mono ?_; rintro e w8 ⟨rfl, hb8⟩; rw [decide_eq_true rfl]; have hb8w := hb7w.trans (hb8.mono hb7w.size); have Hl8 := Lib.hid (Hl7.out.belowK hb8); have Hr8 := Lib.hid (Hr7.out.belowK hb8); clear ex5 ex7 hb8))
                  go_roundw
                  case rel => exact ⟨j + 1, _, by omega, by go_num, Hset.out, Hnr2.out, Hl8.out, Hr8.out, Hk5.out, hb8w⟩
                  case measure => simp [intOf]; omega
            · have hge2 : ¬ (j : Int) < (no : Int) := by omega
              have CR := Lib.hid (right_any c (exts_of_row hown) (by unfold maxLen; omega))
              rw [hright] at CR
              clear hown hrow hne hnr hright HN
              go_wp2_with (go_at_call 14; refine (CR.out).mono ?_; rintro e w5 ⟨rfl, hb5⟩; have hb5w := hbx.trans (hb5.mono hbx.size))
              go_ret
              exact ⟨rfl, hb5w⟩
end Go.Proofs.Ytefbhcpcbolbiaa
