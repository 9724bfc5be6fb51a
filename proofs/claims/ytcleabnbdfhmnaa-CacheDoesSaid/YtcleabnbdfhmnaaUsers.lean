/- Who uses a file; whether the table is free. -/
import Derived.Test.YtcleabnbdfhmnaaWho
import Derived.Deep.Onto
namespace Go.Proofs.Ytcleabnbdfhmnaa
open Go.RowKit Go.Maps Go.Sort Go.Shelf

theorem _root_.Go.World.ownsRow.belowK {w w' : World} {base : Nat} {e : TypeId} {size : Nat} {v : Value} {n : Nat} {xs : List Value} (h : w.ownsRow base e size v n xs) (hb : Below w.heap.size w w') : w'.ownsRow base e size v n xs :=
  h.kept (row := none) ⟨hb.os, hb.tape, hb.output, hb.size, fun k hk _ => hb.block k hk⟩ (by cases v.ownBlock <;> simp)
theorem own_slice {base e size : Nat} {w : World} {v : Value} {n : Nat} {xs : List Value} (h : w.ownsRow base e size v n xs) : ∃ A c, v = .slice A n c := by
  rcases h.2 with ⟨rfl, h⟩ | ⟨g, cap, cur, rfl, _⟩
  · exact ⟨none, 0, by subst_vars; rfl⟩
  · exact ⟨_, _, rfl⟩
theorem take_snoc {α : Type} {xs : List α} {j : Nat} {x : α} (hx : xs[j]? = some x) : xs.take (j + 1) = xs.take j ++ [x] := by
  obtain ⟨h, rfl⟩ := List.getElem?_eq_some_iff.1 hx
  exact List.take_succ_eq_append_getElem h

/-- A slice reads as these numbers. -/
def Ints (w : World) (A : Option Addr) (n : Nat) (xs : List Int) : Prop :=
  xs.length = n ∧ (xs = [] ∨ ∃ b off, A = some ⟨b, off, none⟩ ∧ b < w.heap.size ∧ ∀ i, (h : i < xs.length) → w.cell? ⟨b, off + i, none⟩ = some (.int .i64 xs[i]))
theorem Ints.below {w w' : World} {A : Option Addr} {n : Nat} {xs : List Int} (h : Ints w A n xs) (hb : Below w.heap.size w w') : Ints w' A n xs := by
  refine ⟨h.1, ?_⟩
  rcases h.2 with h | ⟨b, off, rfl, hl, hc⟩
  · exact .inl h
  · exact .inr ⟨b, off, rfl, Nat.lt_of_lt_of_le hl hb.size, fun i hi => (hb.cell hl).trans (hc i hi)⟩
theorem Ints.at {w : World} {A : Option Addr} {n : Nat} {xs : List Int} (h : Ints w A n xs) {i : Nat} (hi : i < n) :
    ∃ b off, A = some ⟨b, off, none⟩ ∧ b < w.heap.size ∧ ∃ x, xs[i]? = some x ∧ w.cell? ⟨b, off + i, none⟩ = some (.int .i64 x) := by
  have hx : i < xs.length := by rw [h.1]; exact hi
  rcases h.2 with h2 | ⟨b, off, rfl, hl, hc⟩
  · subst h2; simp at hx
  · exact ⟨b, off, rfl, hl, xs[i], List.getElem?_eq_getElem hx, hc i hx⟩
theorem ints_of_nums {w : World} {base n c : Nat} {X : Option Addr} {zs : List Int} (hl : zs.length = n) (h : w.ownsRow base 3 1 (.slice X n c) n (zs.map (Value.int .i64))) : Ints w X n zs := by
  refine ⟨hl, ?_⟩
  rcases h.2 with ⟨_, h0⟩ | ⟨g, cap, cur, e, _⟩
  · left; exact List.length_eq_zero_iff.1 (by omega)
  · cases e
    right
    refine ⟨g, 0, rfl, (h.lt g rfl).2, fun i hi => ?_⟩
    rw [Nat.zero_add, h.cellAt _ (by omega), List.getElem?_map, List.getElem?_eq_getElem hi]; rfl

/-- Who uses a file. -/
def usL (xs : List L) (i : Int) : List Int := (xs.filter (fun y => y.ino == i)).map L.who
theorem usL_snoc (xs : List L) (y : L) (i : Int) : usL (xs ++ [y]) i = usL xs i ++ if y.ino = i then [y.who] else [] := by
  unfold usL
  rw [List.filter_append, List.map_append]
  by_cases h : y.ino = i
  · simp [h]
  · simp [h]
theorem usL_len (xs : List L) (i : Int) : (usL xs i).length ≤ xs.length := by
  unfold usL; rw [List.length_map]; exact List.length_filter_le _ _
theorem Try.info3 : (Try.prog.info? 3).map (fun i => (i.zero, i.size, i.bytes)) = some (some (.int .i64 0), 1, 8) := by kernel_rfl
theorem nums_snoc {base : Nat} {xs : List Int} {x : Int} {w : World} {v : Value} (h : w.ownsRow base 3 1 v (xs.length + 1) (xs.map (Value.int .i64) ++ [.int .i64 x])) : w.ownsRow base 3 1 v (xs ++ [x]).length ((xs ++ [x]).map (Value.int .i64)) := by
  rw [List.map_append, List.length_append]; exact h

set_option maxRecDepth 100000 in
set_option maxHeartbeats 4000000 in
theorem users_any {w : World} {t b n : Nat} {xs : List L} (h : TabIs w t b n xs) (i : Int) : Calls Try.prog 14 #[.pointer (some ⟨t, 0, none⟩), .int .i64 i] w (NumsOf w.heap.size (usL xs i) w) := by
  have H := Lib.hid h
  have CW := Lib.hid (who_any h)
  have hf := h.few
  have hl := h.len
  obtain ⟨i0, hi, hz0, hz1, hz2⟩ := info_parts Try.info3
  have hfd : ∀ (a : Int) (c : Bool) (w : World), (Instr.field 54 (.agg #[.int .i64 a, .bool c]) 0).run Try.prog w = .ok (.int .i64 a) w := fun _ _ _ => by kernel_rfl
  clear h
  go_enter Try.func14, Try.ntmps14
  go_wp2_with (go_at_call 28; refine (CW.out).mono ?_; rintro e w2 ⟨v2, rfl, hown2, hb2⟩; rw [List.length_map] at hown2; obtain ⟨X, c, rfl⟩ := own_slice hown2; have HK := Lib.hid (ints_of_nums (List.length_map _) hown2); clear hown2)
  go_loopw [5, 11] (fun v k wr => ∃ j : Nat, j ≤ xs.length ∧ k = .int .i64 j ∧ wr.ownsRow w2.heap.size 3 1 v (usL (xs.take j) i).length ((usL (xs.take j) i).map (Value.int .i64)) ∧ Below w2.heap.size w2 wr) (fun _ k _ => xs.length - (intOf k).toNat)
  case atStart => exact ⟨0, Nat.zero_le _, rfl, World.ownsRow_nil _ _ _ _, Below.refl _ _⟩
  case round =>
    obtain ⟨j, hj, rfl, hown, hb⟩ := hrel
    have hbw := hb2.trans (hb.mono hb2.size)
    by_cases hlt : j < xs.length
    · obtain ⟨g, off, rfl, hgl, x, hx, c0⟩ := (HK.out.below hb).at hlt
      have hy : xs[j]? = some xs[j] := List.getElem?_eq_getElem hlt
      generalize xs[j] = y at hy
      have hxy : x = y.who := by
        rw [List.getElem?_map, hy] at hx; cases hx; rfl
      subst hxy
      have hym := List.mem_of_getElem? hy
      have hT := H.out.below hbw
      have hlook := (hT.map.look (H.out.wf y hym)).1
      rw [findL_of H.out.ris hym] at hlook
      have hc := hT.cell
      have hsn := usL_snoc (xs.take j) y i
      rw [← take_snoc hy] at hsn
      have hul := usL_len (xs.take j) i
      rw [List.length_take] at hul
      have hsz := hb.size
      generalize usL (xs.take j) i = out at *
      have Hown := Lib.hid hown
      clear hx hy hym hT hown
      by_cases he : y.ino = i
      · rw [if_pos he] at hsn
        have Hs := Lib.hid hsn
        clear hsn
        subst he
        go_wp2_with (at_builtin; refine wpList_append_own _ rfl _ _ 28 rfl w2.heap.size 3 i0 (.int .i64 0) 1 8 Try.underlying28 hi hz0 hz1 hz2 rfl (by decide) _ out.length (out.map (Value.int .i64)) rfl (Hown.out.alloc _) ⟨wr.heap.size, 0, none⟩ 1 1 [.int .i64 y.who] rfl rfl ?c1 ?c2 ?c3 ?c4 ?c5 ?_)
        case c1 => first | exact cell_one_new _ _ _ | exact fun j u h => h
        case c2 => intro u hu; rcases List.mem_cons.1 hu with rfl | hu; rfl; cases hu
        case c3 => unfold maxLen; omega
        case c4 => omega
        case c5 => first | omega | (simp; omega)
        intro v6 w6 hown6 hgrow6 _
        have hb6 := (hb.alloc hb.size (.cells #[.int .i64 y.who] 3)).grown hgrow6 (Nat.le_trans hb.size (by simp)) (fun k hk => ((Hown.out.alloc (.cells #[.int .i64 y.who] 3)).lt k hk).1)
        have Hown6 := Lib.hid (nums_snoc hown6)
        clear hown6
        go_wp2
        go_roundw
        case rel => exact ⟨j + 1, by omega, by go_num, by rw [Hs.out]; exact Hown6.out, hb6⟩
        case measure => simp [intOf]; omega
      · rw [if_neg he, List.append_nil] at hsn
        have Hs := Lib.hid hsn
        clear hsn
        go_wp2
        go_roundw
        case rel => exact ⟨j + 1, by omega, by go_num, by rw [Hs.out]; exact Hown.out, hb⟩
        case measure => simp [intOf]; omega
    · have e : j = xs.length := by omega
      have et : xs.take j = xs := List.take_of_length_le (by omega)
      have hge : ¬ (j : Int) < (xs.length : Int) := by omega
      rw [et] at hown
      have Hown := Lib.hid hown
      clear hlt hj hown e et
      go_wp2
      go_ret
      exact ⟨_, rfl, Hown.out.mono hb2.size, hbw⟩

set_option maxHeartbeats 1600000 in
theorem free_any {w : World} {t b n : Nat} {xs : List L} (h : TabIs w t b n xs) : Calls Try.prog 15 #[.pointer (some ⟨t, 0, none⟩)] w fun e w' => e = .returned (.bool (decide (xs.length = 0))) ∧ Below w.heap.size w w' := by
  have CW := Lib.hid (who_any h)
  have hf := h.few
  have hl := h.len
  clear h
  go_enter Try.func15, Try.ntmps15
  go_wp2_with (go_at_call 28; refine (CW.out).mono ?_; rintro e w2 ⟨v2, rfl, hown2, hb2⟩; rw [List.length_map] at hown2; obtain ⟨X, c, rfl⟩ := own_slice hown2; clear hown2)
  go_ret
  refine ⟨?_, hb2⟩
  by_cases h0 : xs.length = 0
  · rw [h0]; rfl
  · have : ¬ (xs.length : Int) = 0 := by omega
    simp [h0]
end Go.Proofs.Ytcleabnbdfhmnaa
