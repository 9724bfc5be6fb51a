/- LocksRight, walked: where one has a lock alone nobody else has one; a table that nobody made has none. -/
import Derived.Test.YtcleabnbdfhmnaaDeeds
namespace Go.Proofs.Ytcleabnbdfhmnaa
open Go.RowKit Go.Maps Go.Sort Go.Shelf

set_option maxRecDepth 100000 in
set_option maxHeartbeats 8000000 in
theorem right_walk {A : Option Addr} {m : Nat} {ds : List De} {w : World} (cap : Nat) (ino : Int) (h : Deeds w A m ds) (hm : m ≤ maxLen) (hw : ∀ x ∈ ds, W64 x.d.who) : Calls Try.prog 4 #[.slice A m cap, .int .i64 ino] w fun e w' => e = .returned (.bool true) ∧ Below w.heap.size w w' := by
  have CA := Lib.hid (awake_any w)
  have H := Lib.hid h
  have HW := Lib.hid hw
  unfold maxLen at hm
  clear h hw
  by_cases h60 : (60 : Int) < m
  · go_enter Try.func4, Try.ntmps4
    go_wp2_with (first | (go_at_call 7; refine (CA.out).mono ?_; rintro e w1 ⟨rfl, hb1⟩))
    go_ret
    exact ⟨rfl, hb1⟩
  · go_enter Try.func4, Try.ntmps4
    go_wp2_with (first
      | (go_at_call 7; refine (CA.out).mono ?_; rintro e w1 ⟨rfl, hb1⟩)
      | (go_at_call 8; refine (new_any _).mono ?_; rintro e w2 ⟨t, b, rfl, hT, hb2, ht, hbb⟩; have HT := Lib.hid hT; have hbA := hb1.trans (hb2.mono hb1.size); have hbs : w.heap.size ≤ b := Nat.le_trans hb1.size hbb; clear hT hb2))
    go_loopw [27] (fun k wr => ∃ (j : Nat) (xs : List L), j ≤ m ∧ k = .int .i64 j ∧ TabIs wr t b j xs ∧ Lone xs ∧ Below w.heap.size w wr) (fun k _ => m - (intOf k).toNat)
    case atStart => exact ⟨0, [], Nat.zero_le _, rfl, HT.out, (fun y hy => by cases hy), hbA⟩
    case round =>
      obtain ⟨j, xs, hj, rfl, hT, hlone, hb⟩ := hrel
      have HTr := Lib.hid hT
      have HL := Lib.hid hlone
      clear hT hlone
      by_cases hlt : j < m
      · obtain ⟨g, off, rfl, hgl, x, hx, c0, c1, c2, c3⟩ := (H.out.below hb).at hlt
        have hwx := HW.out x (List.mem_of_getElem? hx)
        clear hx
        rcases x with ⟨xk, d⟩
        dsimp only at c0 c1 c2 c3 hwx
        by_cases hk : xk = 0
        · subst hk
          have hba : Below wr.heap.size wr (wr.alloc (.cells #[.int .i64 0, .int .i64 d.who, .int .i64 d.ino, .bool d.al] 27)) := (Below.refl _ _).alloc (Nat.le_refl _) _
          have hbW := hb.trans (hba.mono hb.size)
          have CT := Lib.hid (take_any (HTr.out.below hba) d hwx (by omega))
          go_wp2_with (first
            | (go_at_call 11; refine (CT.out).mono ?_; rintro e w3 ⟨rfl, hT3, hg3⟩; have HT3 := Lib.hid hT3; have HL3 := Lib.hid (lone_take HL.out d); have hb3 := hbW.grown hg3 hbW.size (fun i hi => by cases hi; exact hbs); clear hT3 hg3)
            | (go_at_call 14; refine (users_any HT3.out ino).mono ?_; rintro e w4 ⟨v4, rfl, hown4, hb4⟩; obtain ⟨X, c, rfl⟩ := own_slice hown4; have HK := Lib.hid (ints_of_nums rfl hown4); have HT4 := Lib.hid (HT3.out.below hb4); have hbw4 := hb3.trans (hb4.mono hb3.size); clear hown4 hb4))
          generalize (takeL xs d) = ys at *
          go_loopw [8, 51] (fun a k wx => ∃ (i : Nat) (c : Nat), i ≤ (usL ys ino).length ∧ k = .int .i64 i ∧ a = .int .i64 c ∧ c ≤ i ∧ (0 < c → ∃ y ∈ ys, y.ino = ino ∧ y.al = true) ∧ Below w4.heap.size w4 wx) (fun _ k _ => (usL ys ino).length - (intOf k).toNat)
          case atStart => exact ⟨0, 0, Nat.zero_le _, rfl, rfl, Nat.le_refl _, fun h => absurd h (Nat.lt_irrefl _), Below.refl _ _⟩
          case round =>
            obtain ⟨i, c, hi, rfl, rfl, hci, hc, hbx⟩ := hrel
            have HC := Lib.hid hc
            have hul := usL_len ys ino
            have hyl := HT4.out.len
            have hbwx := hbw4.trans (hbx.mono hbw4.size)
            clear hc
            by_cases hli : i < (usL ys ino).length
            · obtain ⟨g2, off2, rfl, hgl2, u, hu, d0⟩ := (HK.out.below hbx).at hli
              obtain ⟨y, hy, hyi, hyu⟩ := mem_usL.1 (List.mem_of_getElem? hu)
              have hwu : W64 u := hyu ▸ HT4.out.wf y hy
              have hfy : findL ys u = y := by rw [← hyu]; exact findL_of HT4.out.ris hy
              have CHs := Lib.hid (has_any (HT4.out.below hbx) hwu)
              rw [hfy] at CHs
              clear hu
              cases hya : y.al with
              | true =>
                rw [hya] at CHs
                have hs : 0 < c + 1 → ∃ y ∈ ys, y.ino = ino ∧ y.al = true := fun _ => ⟨y, hy, hyi, hya⟩
                have Hs := Lib.hid hs
                clear hs hy hyi hyu hfy hya
                go_wp2_with (go_at_call 12; refine (CHs.out).mono ?_; rintro e w5 ⟨rfl, hb5⟩; have hbx5 := hbx.trans (hb5.mono hbx.size); clear hb5)
                go_roundw
                case rel => exact ⟨i + 1, c + 1, by omega, by go_num, by go_num, by omega, Hs.out, hbx5⟩
                case measure => simp [intOf]; omega
              | false =>
                rw [hya] at CHs
                clear hy hyi hyu hfy hya
                go_wp2_with (go_at_call 12; refine (CHs.out).mono ?_; rintro e w5 ⟨rfl, hb5⟩; have hbx5 := hbx.trans (hb5.mono hbx.size); clear hb5)
                go_roundw
                case rel => exact ⟨i + 1, c, by omega, by go_num, rfl, by omega, HC.out, hbx5⟩
                case measure => simp [intOf]; omega
            · have hge : ¬ (i : Int) < ((usL ys ino).length : Int) := by omega
              have HTx := Lib.hid (HT4.out.below hbx)
              by_cases hc0 : 0 < c
              · obtain ⟨y, hy, hyi, hya⟩ := HC.out hc0
                have hone : (usL ys ino).length ≤ 1 := by rw [← hyi]; exact lone_few HL3.out HT4.out.ris hy hya
                clear hli hi hy hyi hya
                go_wp2
                go_roundw
                case rel => exact ⟨j + 1, ys, by omega, by go_num, HTx.out, HL3.out, hbwx⟩
                case measure => simp [intOf]; omega
              · clear hli hi
                go_wp2
                go_roundw
                case rel => exact ⟨j + 1, ys, by omega, by go_num, HTx.out, HL3.out, hbwx⟩
                case measure => simp [intOf]; omega
        · have hba : Below wr.heap.size wr (wr.alloc (.cells #[.int .i64 xk, .int .i64 d.who, .int .i64 d.ino, .bool d.al] 27)) := (Below.refl _ _).alloc (Nat.le_refl _) _
          have hbW := hb.trans (hba.mono hb.size)
          have CG := Lib.hid (give_any (HTr.out.below hba) hwx)
          go_wp2_with (first
            | (go_at_call 10; refine (CG.out).mono ?_; rintro e w3 ⟨rfl, hT3, hg3⟩; have HT3 := Lib.hid (hT3.mono (Nat.le_succ j) (by omega)); have HL3 := Lib.hid (lone_del HL.out d.who); have hb3 := hbW.grown hg3 hbW.size (fun i hi => by cases hi; exact hbs); clear hT3 hg3)
            | (go_at_call 14; refine (users_any HT3.out ino).mono ?_; rintro e w4 ⟨v4, rfl, hown4, hb4⟩; obtain ⟨X, c, rfl⟩ := own_slice hown4; have HK := Lib.hid (ints_of_nums rfl hown4); have HT4 := Lib.hid (HT3.out.below hb4); have hbw4 := hb3.trans (hb4.mono hb3.size); clear hown4 hb4))
          generalize (delL xs d.who) = ys at *
          go_loopw [8, 51] (fun a k wx => ∃ (i : Nat) (c : Nat), i ≤ (usL ys ino).length ∧ k = .int .i64 i ∧ a = .int .i64 c ∧ c ≤ i ∧ (0 < c → ∃ y ∈ ys, y.ino = ino ∧ y.al = true) ∧ Below w4.heap.size w4 wx) (fun _ k _ => (usL ys ino).length - (intOf k).toNat)
          case atStart => exact ⟨0, 0, Nat.zero_le _, rfl, rfl, Nat.le_refl _, fun h => absurd h (Nat.lt_irrefl _), Below.refl _ _⟩
          case round =>
            obtain ⟨i, c, hi, rfl, rfl, hci, hc, hbx⟩ := hrel
            have HC := Lib.hid hc
            have hul := usL_len ys ino
            have hyl := HT4.out.len
            have hbwx := hbw4.trans (hbx.mono hbw4.size)
            clear hc
            by_cases hli : i < (usL ys ino).length
            · obtain ⟨g2, off2, rfl, hgl2, u, hu, d0⟩ := (HK.out.below hbx).at hli
              obtain ⟨y, hy, hyi, hyu⟩ := mem_usL.1 (List.mem_of_getElem? hu)
              have hwu : W64 u := hyu ▸ HT4.out.wf y hy
              have hfy : findL ys u = y := by rw [← hyu]; exact findL_of HT4.out.ris hy
              have CHs := Lib.hid (has_any (HT4.out.below hbx) hwu)
              rw [hfy] at CHs
              clear hu
              cases hya : y.al with
              | true =>
                rw [hya] at CHs
                have hs : 0 < c + 1 → ∃ y ∈ ys, y.ino = ino ∧ y.al = true := fun _ => ⟨y, hy, hyi, hya⟩
                have Hs := Lib.hid hs
                clear hs hy hyi hyu hfy hya
                go_wp2_with (go_at_call 12; refine (CHs.out).mono ?_; rintro e w5 ⟨rfl, hb5⟩; have hbx5 := hbx.trans (hb5.mono hbx.size); clear hb5)
                go_roundw
                case rel => exact ⟨i + 1, c + 1, by omega, by go_num, by go_num, by omega, Hs.out, hbx5⟩
                case measure => simp [intOf]; omega
              | false =>
                rw [hya] at CHs
                clear hy hyi hyu hfy hya
                go_wp2_with (go_at_call 12; refine (CHs.out).mono ?_; rintro e w5 ⟨rfl, hb5⟩; have hbx5 := hbx.trans (hb5.mono hbx.size); clear hb5)
                go_roundw
                case rel => exact ⟨i + 1, c, by omega, by go_num, rfl, by omega, HC.out, hbx5⟩
                case measure => simp [intOf]; omega
            · have hge : ¬ (i : Int) < ((usL ys ino).length : Int) := by omega
              have HTx := Lib.hid (HT4.out.below hbx)
              by_cases hc0 : 0 < c
              · obtain ⟨y, hy, hyi, hya⟩ := HC.out hc0
                have hone : (usL ys ino).length ≤ 1 := by rw [← hyi]; exact lone_few HL3.out HT4.out.ris hy hya
                clear hli hi hy hyi hya
                go_wp2
                go_roundw
                case rel => exact ⟨j + 1, ys, by omega, by go_num, HTx.out, HL3.out, hbwx⟩
                case measure => simp [intOf]; omega
              · clear hli hi
                go_wp2
                go_roundw
                case rel => exact ⟨j + 1, ys, by omega, by go_num, HTx.out, HL3.out, hbwx⟩
                case measure => simp [intOf]; omega
      · have hge : ¬ (j : Int) < (m : Int) := by omega
        clear hlt hj
        go_wp2_with (first
          | (go_at_call 12; refine (has_nil _ _).mono ?_; rintro e wa ⟨rfl, hba⟩; have hb1 := hb.trans (hba.mono hb.size); clear hba)
          | (go_at_call 9; refine (may_nil _ _ _ _).mono ?_; rintro e wb ⟨rfl, hba⟩; have hb2 := hb1.trans (hba.mono hb1.size); clear hba)
          | (go_at_call 11; refine (take_nil _ _ _ _).mono ?_; rintro e wc ⟨rfl, hba⟩; have hb3 := hb2.trans (hba.mono hb2.size); clear hba)
          | (go_at_call 10; refine (give_nil _ _).mono ?_; rintro e wd ⟨rfl, hba⟩; have hb4 := hb3.trans (hba.mono hb3.size); clear hba)
          | (go_at_call 15; refine (free_nil _).mono ?_; rintro e we ⟨rfl, hw⟩; rw [hw]; clear hw we)
          | (go_at_call 16; refine (right_nil _).mono ?_; rintro e we ⟨rfl, hw⟩; rw [hw]; clear hw we)
          | (go_at_call 14; refine (users_nil _ _).mono ?_; rintro e we ⟨rfl, hw⟩; rw [hw]; clear hw we))
        go_ret
        exact ⟨rfl, hb4⟩
end Go.Proofs.Ytcleabnbdfhmnaa
