/- Whether one may have a lock; taking and giving it. -/
import Derived.Test.YtcleabnbdfhmnaaUsers
namespace Go.Proofs.Ytcleabnbdfhmnaa
open Go.RowKit Go.Maps Go.Sort Go.Shelf

def mayB (xs : List L) (who ino : Int) (al : Bool) : Bool := !(xs.any (fun y => y.who == who)) && decide (0 ≤ who) && !(xs.any (fun y => y.ino == ino && (al || y.al)))

theorem mem_usL {xs : List L} {i w : Int} : w ∈ usL xs i ↔ ∃ y ∈ xs, y.ino = i ∧ y.who = w := by
  unfold usL
  rw [List.mem_map]
  constructor
  · rintro ⟨y, hy, rfl⟩
    obtain ⟨h1, h2⟩ := List.mem_filter.1 hy
    exact ⟨y, h1, by simpa using h2, rfl⟩
  · rintro ⟨y, hy, h1, rfl⟩
    exact ⟨y, List.mem_filter.2 ⟨hy, by simpa using h1⟩, rfl⟩

theorem any_no {xs : List L} (hr : Rising xs) {ino : Int} {al : Bool} (h : ∀ w ∈ usL xs ino, al = false ∧ (findL xs w).al = false) : xs.any (fun y => y.ino == ino && (al || y.al)) = false := by
  rw [List.any_eq_false]
  intro y hy hc
  simp only [Bool.and_eq_true, beq_iff_eq, Bool.or_eq_true] at hc
  obtain ⟨h1, h2⟩ := h y.who (mem_usL.2 ⟨y, hy, hc.1, rfl⟩)
  rw [findL_of hr hy] at h2
  rcases hc.2 with h3 | h3
  · rw [h1] at h3; cases h3
  · rw [h2] at h3; cases h3
theorem any_yes {xs : List L} (hr : Rising xs) {ino w : Int} {al : Bool} (hw : w ∈ usL xs ino) (h : al = true ∨ (findL xs w).al = true) : xs.any (fun y => y.ino == ino && (al || y.al)) = true := by
  obtain ⟨y, hy, h1, rfl⟩ := mem_usL.1 hw
  rw [findL_of hr hy] at h
  rw [List.any_eq_true]
  refine ⟨y, hy, ?_⟩
  simp only [Bool.and_eq_true, beq_iff_eq, Bool.or_eq_true]
  exact ⟨h1, h⟩

set_option maxRecDepth 100000 in
set_option maxHeartbeats 4000000 in
theorem may_any {w : World} {t b n : Nat} {xs : List L} (h : TabIs w t b n xs) {who : Int} (hw : W64 who) (ino : Int) (al : Bool) : Calls Try.prog 9 #[.pointer (some ⟨t, 0, none⟩), .int .i64 who, .int .i64 ino, .bool al] w fun e w' => e = .returned (.bool (mayB xs who ino al)) ∧ Below w.heap.size w w' := by
  have H := Lib.hid h
  have CH := Lib.hid (has_any h hw)
  have hfd : ∀ (a : Int) (c : Bool) (w : World), (Instr.field 54 (.agg #[.int .i64 a, .bool c]) 1).run Try.prog w = .ok (.bool c) w := fun _ _ _ => by kernel_rfl
  have hm : mayB xs who ino al = (!(xs.any (fun y => y.who == who)) && decide (0 ≤ who) && !(xs.any (fun y => y.ino == ino && (al || y.al)))) := rfl
  have hf := h.few
  have hl := h.len
  clear h
  cases hany : xs.any (fun y => y.who == who) with
  | true =>
    rw [hany] at CH hm
    have Hm := Lib.hid hm
    clear hm hany
    go_enter Try.func9, Try.ntmps9
    go_wp2_with (go_at_call 12; refine (CH.out).mono ?_; rintro e w2 ⟨rfl, hb2⟩)
    go_ret
    exact ⟨by rw [Hm.out]; rfl, hb2⟩
  | false =>
    rw [hany] at CH hm
    clear hany
    by_cases h0 : 0 ≤ who
    · have hm2 : mayB xs who ino al = !(xs.any (fun y => y.ino == ino && (al || y.al))) := by rw [hm, decide_eq_true h0]; rfl
      have Hm := Lib.hid hm2
      clear hm hm2
      go_enter Try.func9, Try.ntmps9
      go_wp2_with (first
        | (go_at_call 12; refine (CH.out).mono ?_; rintro e w2 ⟨rfl, hb2⟩)
        | (go_at_call 27; refine (ok_any (H.out.below hb2)).mono ?_; rintro e w3 ⟨rfl, hw3⟩; rw [hw3]; clear hw3 w3)
        | (go_at_call 14; refine (users_any (H.out.below hb2) ino).mono ?_; rintro e w3 ⟨v3, rfl, hown3, hb3⟩; obtain ⟨X, c, rfl⟩ := own_slice hown3; have HK := Lib.hid (ints_of_nums rfl hown3); have hbw3 := hb2.trans (hb3.mono hb2.size); clear hown3))
      have hul := usL_len xs ino
      go_loopw [35] (fun k wr => ∃ j : Nat, j ≤ (usL xs ino).length ∧ k = .int .i64 j ∧ (∀ i x, i < j → (usL xs ino)[i]? = some x → al = false ∧ (findL xs x).al = false) ∧ Below w3.heap.size w3 wr) (fun k _ => (usL xs ino).length - (intOf k).toNat)
      case atStart => exact ⟨0, Nat.zero_le _, rfl, fun i x hi => absurd hi (Nat.not_lt_zero _), Below.refl _ _⟩
      case round =>
        obtain ⟨j, hj, rfl, hall, hb⟩ := hrel
        have Hall := Lib.hid hall
        have hbw := hbw3.trans (hb.mono hbw3.size)
        clear hall
        by_cases hlt : j < (usL xs ino).length
        · obtain ⟨g, off, rfl, hgl, x, hx, c0⟩ := (HK.out.below hb).at hlt
          have hxm := List.mem_of_getElem? hx
          obtain ⟨y, hy, _, hyw⟩ := mem_usL.1 hxm
          have hwx : W64 x := hyw ▸ H.out.wf y hy
          have hT := H.out.below hbw
          have hlook := (hT.map.look hwx).1
          have hc := hT.cell
          have hyes := fun h => any_yes (al := al) H.out.ris hxm h
          cases hal : al with
          | true =>
            have hfin : mayB xs who ino al = false := by rw [Hm.out, hyes (.inl hal)]; rfl
            rw [hal] at hfin
            have Hf := Lib.hid hfin
            subst hal
            clear hx hxm hy hyw hT hyes hfin hlook
            go_wp2
            go_ret
            exact ⟨by rw [Hf.out]; rfl, hbw⟩
          | false =>
            cases hya : (findL xs x).al with
            | true =>
              have hfin : mayB xs who ino al = false := by rw [Hm.out, hyes (.inr hya)]; rfl
              rw [hal] at hfin
              rw [hya] at hlook
              have Hf := Lib.hid hfin
              subst hal
              clear hx hxm hy hyw hT hyes hfin hya
              generalize (findL xs x).ino = ii at *
              go_wp2
              go_ret
              exact ⟨by rw [Hf.out]; rfl, hbw⟩
            | false =>
              rw [hya] at hlook
              subst hal
              have hs : ∀ i z, i < j + 1 → (usL xs ino)[i]? = some z → false = false ∧ (findL xs z).al = false := by
                intro i z hi hz
                rcases Nat.lt_succ_iff_lt_or_eq.1 hi with h1 | rfl
                · exact Hall.out i z h1 hz
                · rw [hx] at hz; cases hz; exact ⟨rfl, hya⟩
              have Hs := Lib.hid hs
              clear hx hxm hy hyw hT hyes hya hs
              generalize (findL xs x).ino = ii at *
              go_wp2
              go_roundw
              case rel => exact ⟨j + 1, by omega, by go_num, fun i x h1 h2 => ⟨trivial, (Hs.out i x h1 h2).2⟩, hb⟩
              case measure => simp [intOf]; omega
        · have hge : ¬ (j : Int) < ((usL xs ino).length : Int) := by omega
          have hfin : mayB xs who ino al = true := by
            rw [Hm.out, any_no H.out.ris]; rfl
            intro x hx
            obtain ⟨i, hi⟩ := List.getElem?_of_mem hx
            exact Hall.out i x (by have := (List.getElem?_eq_some_iff.1 hi).1; omega) hi
          have Hf := Lib.hid hfin
          clear hlt hj hfin
          go_wp2
          go_ret
          exact ⟨by rw [Hf.out]; rfl, hbw⟩
    · have hm2 : mayB xs who ino al = false := by rw [hm, decide_eq_false h0]; rfl
      have Hm := Lib.hid hm2
      clear hm hm2
      go_enter Try.func9, Try.ntmps9
      go_wp2_with (first
        | (go_at_call 12; refine (CH.out).mono ?_; rintro e w2 ⟨rfl, hb2⟩)
        | (go_at_call 27; refine (ok_any (H.out.below hb2)).mono ?_; rintro e w3 ⟨rfl, hw3⟩; rw [hw3]; clear hw3 w3))
      go_ret
      exact ⟨by rw [Hm.out]; rfl, hb2⟩

def takeL (xs : List L) (d : L) : List L := if mayB xs d.who d.ino d.al then insL xs d else xs

theorem TabIs.grown {w w' : World} {t b n n' : Nat} {xs ys : List L} (h : TabIs w t b n xs) (hg : w.grownBy w' (some b)) (hm : MapIs w' b n' ys) (hr : Rising ys) (hw : ∀ y ∈ ys, W64 y.who) (hl : ys.length ≤ n') (hf : n' ≤ 1000) : TabIs w' t b n' ys :=
  ⟨hg.cell h.cell (by simpa using h.tb), Nat.lt_of_lt_of_le h.tl hg.size, h.tb, hm, hr, hw, hl, hf⟩
theorem TabIs.mono {w : World} {t b n n' : Nat} {xs : List L} (h : TabIs w t b n xs) (hn : n ≤ n') (hf : n' ≤ 1000) : TabIs w t b n' xs :=
  ⟨h.cell, h.tl, h.tb, h.map.mono hn, h.ris, h.wf, Nat.le_trans h.len hn, hf⟩
theorem insL_len (xs : List L) (d : L) : (insL xs d).length = xs.length + 1 := by
  unfold insL
  have := congrArg List.length (List.takeWhile_append_dropWhile (p := fun y : L => decide (y.who < d.who)) (l := xs))
  rw [List.length_append] at this
  rw [List.length_append, List.length_cons]; omega
theorem rising_delL {xs : List L} (hr : Rising xs) (k : Int) : Rising (delL xs k) := List.Pairwise.filter _ hr
theorem grownBy_of {w w' : World} {b : Nat} (h : Below w.heap.size w w') : w.grownBy w' (some b) := ⟨h.os, h.tape, h.output, h.size, fun k hk _ => h.block k hk⟩
theorem grown_trans {a w w' : World} {row : Option Nat} (h : a.grownBy w row) (k : w.grownBy w' row) : a.grownBy w' row :=
  ⟨k.os.trans h.os, k.tape.trans h.tape, k.output.trans h.output, Nat.le_trans h.size k.size, fun i hi hne => (k.block i (Nat.lt_of_lt_of_le hi h.size) hne).trans (h.block i hi hne)⟩

set_option maxRecDepth 100000 in
set_option maxHeartbeats 4000000 in
theorem take_any {w : World} {t b n : Nat} {xs : List L} (h : TabIs w t b n xs) (d : L) (hw : W64 d.who) (hn : n < 1000) : Calls Try.prog 11 #[.pointer (some ⟨t, 0, none⟩), .int .i64 d.who, .int .i64 d.ino, .bool d.al] w fun e w' => e = .returned (.bool (mayB xs d.who d.ino d.al)) ∧ TabIs w' t b (n + 1) (takeL xs d) ∧ w.grownBy w' (some b) := by
  have H := Lib.hid h
  have CM := Lib.hid (may_any h hw d.ino d.al)
  unfold takeL
  clear h
  cases hm : mayB xs d.who d.ino d.al with
  | false =>
    rw [hm] at CM
    rw [if_neg (by simp)]
    clear hm
    go_enter Try.func11, Try.ntmps11
    go_wp2_with (go_at_call 9; refine (CM.out).mono ?_; rintro e w2 ⟨rfl, hb2⟩)
    go_ret
    exact ⟨rfl, (H.out.below hb2).mono (Nat.le_succ _) (by omega), grownBy_of hb2⟩
  | true =>
    rw [hm] at CM
    rw [if_pos rfl]
    have hno : xs.any (fun y => y.who == d.who) = false := by
      unfold mayB at hm
      simp only [Bool.and_eq_true, Bool.not_eq_true'] at hm
      exact hm.1.1
    have Hno := Lib.hid hno
    have hkey := keyOf_int_mk Try.underlying3 hw.wf
    clear hm hno
    go_enter Try.func11, Try.ntmps11
    go_wp2_with (first
      | (go_at_call 9; refine (CM.out).mono ?_; rintro e w2 ⟨rfl, hb2⟩; have HT := Lib.hid (H.out.below hb2); have hc := HT.out.cell; obtain ⟨D, hown, h1, h2⟩ := HT.out.map; have Hown := Lib.hid hown; have H1 := Lib.hid h1; have H2 := Lib.hid h2; clear hown h1 h2)
      | (at_mapUpdate; refine wpList_mapUpdate_own _ rfl _ _ _ 50 rfl 3 54 keyed3 Try.underlying50 lockR b n D rfl Hown.out (by unfold maxLen; omega) _ _ (.int .i64 d.who) rfl rfl hkey (lockD d.ino d.al) [] (lockR_mk _ _) ?_; intro w4 hown4 hgrow4; have hp := MapIs.putD hw Hown.out.isMap Hno.out H1.out H2.out; have HM := Lib.hid (show MapIs w4 b (n + 1) (insL xs d) from ⟨_, hown4, hp.1, hp.2⟩); have HG := Lib.hid hgrow4; clear hp hown4 hgrow4))
    go_ret
    refine ⟨rfl, HT.out.grown HG.out HM.out (rising_insL H.out.ris Hno.out) (fun y hy => ?_) (by rw [insL_len]; have := H.out.len; omega) (by omega), grown_trans (grownBy_of hb2) HG.out⟩
    rcases mem_insL.1 hy with rfl | h1
    · exact hw
    · exact H.out.wf y h1

set_option maxRecDepth 100000 in
set_option maxHeartbeats 4000000 in
theorem give_any {w : World} {t b n : Nat} {xs : List L} (h : TabIs w t b n xs) {k : Int} (hw : W64 k) : Calls Try.prog 10 #[.pointer (some ⟨t, 0, none⟩), .int .i64 k] w fun e w' => e = .returned (.bool (xs.any (fun y => y.who == k))) ∧ TabIs w' t b n (delL xs k) ∧ w.grownBy w' (some b) := by
  have H := Lib.hid h
  have CH := Lib.hid (has_any h hw)
  clear h
  cases hany : xs.any (fun y => y.who == k) with
  | false =>
    rw [hany] at CH
    have hd : delL xs k = xs := by
      unfold delL
      rw [List.filter_eq_self]
      intro y hy
      rw [List.any_eq_false] at hany
      have := hany y hy
      simpa using this
    rw [hd]
    clear hany hd
    go_enter Try.func10, Try.ntmps10
    go_wp2_with (go_at_call 12; refine (CH.out).mono ?_; rintro e w2 ⟨rfl, hb2⟩)
    go_ret
    exact ⟨rfl, H.out.below hb2, grownBy_of hb2⟩
  | true =>
    rw [hany] at CH
    have hkey := keyOf_int_mk Try.underlying3 hw.wf
    clear hany
    go_enter Try.func10, Try.ntmps10
    go_wp2_with (first
      | (go_at_call 12; refine (CH.out).mono ?_; rintro e w2 ⟨rfl, hb2⟩; have HT := Lib.hid (H.out.below hb2); have hc := HT.out.cell; obtain ⟨D, hown, h1, h2⟩ := HT.out.map; have Hown := Lib.hid hown; have H1 := Lib.hid h1; have H2 := Lib.hid h2; clear hown h1 h2)
      | (at_delete; refine wpList_delete_own _ rfl _ _ 50 3 rfl 54 keyed3 Try.underlying50 lockR b n D rfl Hown.out _ _ rfl hkey ?_; intro w4 hown4 hturn4; have hp := MapIs.delD (k := k) H1.out H2.out; have HM := Lib.hid (show MapIs w4 b n (delL xs k) from ⟨_, hown4, hp.1, hp.2⟩); have HG := Lib.hid hturn4.grown; clear hp hown4 hturn4))
    go_ret
    exact ⟨rfl, HT.out.grown HG.out HM.out (rising_delL H.out.ris k) (fun y hy => H.out.wf y (List.mem_filter.1 hy).1) (Nat.le_trans (List.length_filter_le _ _) H.out.len) H.out.few, grown_trans (grownBy_of hb2) HG.out⟩

set_option maxRecDepth 100000 in
set_option maxHeartbeats 4000000 in
theorem new_any (w : World) : Calls Try.prog 8 #[] w fun e w' => ∃ t b, e = .returned (.pointer (some ⟨t, 0, none⟩)) ∧ TabIs w' t b 0 [] ∧ Below w.heap.size w w' ∧ w.heap.size ≤ t ∧ w.heap.size ≤ b := by
  have hmm := @run_makeMap Try.prog
  go_enter Try.func8, Try.ntmps8
  go_wp2
  go_ret
  exact ⟨_, _, rfl, ⟨by go_simp, by simp, by simp, ⟨.map [], (World.ownsMap_made w _ _ _).alloc _, fun k => rfl, (fun y hy => by cases hy)⟩, List.Pairwise.nil, (fun y hy => by cases hy), Nat.le_refl _, by omega⟩, ((Below.refl _ _).alloc (Nat.le_refl _) _).alloc (by simp) _, by simp, Nat.le_refl _⟩
end Go.Proofs.Ytcleabnbdfhmnaa
