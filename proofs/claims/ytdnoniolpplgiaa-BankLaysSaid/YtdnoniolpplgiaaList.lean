/- A device's dirty words, as slices; flushing: contracts. -/
import Derived.Test.YtdnoniolpplgiaaStore
namespace Go.Proofs.Ytdnoniolpplgiaa
open Go.RowKit Go.Maps Go.Sort Go.Shelf

theorem grownBy_of {w w' : World} {b : Nat} (h : Below w.heap.size w w') : w.grownBy w' (some b) := ⟨h.os, h.tape, h.output, h.size, fun k hk _ => h.block k hk⟩
theorem grown_trans {a w w' : World} {row : Option Nat} (h : a.grownBy w row) (k : w.grownBy w' row) : a.grownBy w' row :=
  ⟨k.os.trans h.os, k.tape.trans h.tape, k.output.trans h.output, Nat.le_trans h.size k.size, fun i hi hne => (k.block i (Nat.lt_of_lt_of_le hi h.size) hne).trans (h.block i hi hne)⟩
theorem own_slice {base e size : Nat} {w : World} {v : Value} {n : Nat} {xs : List Value} (h : w.ownsRow base e size v n xs) : ∃ A c, v = .slice A n c := by
  rcases h.2 with ⟨rfl, h⟩ | ⟨g, cap, cur, rfl, _⟩
  · exact ⟨none, 0, by subst_vars; rfl⟩
  · exact ⟨_, _, rfl⟩
theorem take_snoc {α : Type} {xs : List α} {j : Nat} {x : α} (hx : xs[j]? = some x) : xs.take (j + 1) = xs.take j ++ [x] := by
  obtain ⟨h, rfl⟩ := List.getElem?_eq_some_iff.1 hx
  exact List.take_succ_eq_append_getElem h

/-- A slice reads as these numbers. -/
def Ints (w : World) (A : Option Addr) (n : Nat) (xs : List Int) : Prop :=
  xs.length = n ∧ (xs = [] ∨ ∃ b off, A = some ⟨b, off, none⟩ ∧ b < w.heap.size ∧ ∀ i, (h : i < xs.length) → w.cell? ⟨b, off + i, none⟩ = some (.int .i64 xs[i]))
theorem Ints.below {w w' : World} {A : Option Addr} {n : Nat} {xs : List Int} (h : Ints w A n xs) (hb : Below w.heap.size w w') : Ints w' A n xs := by
  refine ⟨h.1, ?_⟩
  rcases h.2 with h | ⟨b, off, rfl, hl, hc⟩
  · exact .inl h
  · exact .inr ⟨b, off, rfl, Nat.lt_of_lt_of_le hl hb.size, fun i hi => (hb.cell hl).trans (hc i hi)⟩
theorem Ints.kept {S : List Nat} {w w' : World} {A : Option Addr} {n : Nat} {xs : List Int} (h : Ints w A n xs) (hk : Kept S w w') (hA : ∀ a, A = some a → a.block ∉ S) : Ints w' A n xs := by
  refine ⟨h.1, ?_⟩
  rcases h.2 with h | ⟨b, off, rfl, hl, hc⟩
  · exact .inl h
  · exact .inr ⟨b, off, rfl, Nat.lt_of_lt_of_le hl hk.size, fun i hi => (hk.cell (a := ⟨b, off + i, none⟩) hl (hA ⟨b, off, none⟩ rfl)).trans (hc i hi)⟩
theorem Ints.at {w : World} {A : Option Addr} {n : Nat} {xs : List Int} (h : Ints w A n xs) {i : Nat} (hi : i < n) :
    ∃ b off, A = some ⟨b, off, none⟩ ∧ b < w.heap.size ∧ ∃ x, xs[i]? = some x ∧ w.cell? ⟨b, off + i, none⟩ = some (.int .i64 x) := by
  have hx : i < xs.length := by rw [h.1]; exact hi
  rcases h.2 with h2 | ⟨b, off, rfl, hl, hc⟩
  · subst h2; simp at hx
  · exact ⟨b, off, rfl, hl, xs[i], List.getElem?_eq_getElem hx, hc i hx⟩
theorem ints_of_nums {w : World} {base n c : Nat} {X : Option Addr} {zs : List Int} (hl : zs.length = n) (h : w.ownsRow base 3 1 (.slice X n c) n (zs.map (Value.int .i64))) : Ints w X n zs := by
  refine ⟨hl, ?_⟩
  rcases h.2 with ⟨_, h0⟩ | ⟨g, cap, cur, e, _⟩
  · left; exact List.length_eq_zero_iff.1 (by omega)
  · cases e
    right
    refine ⟨g, 0, rfl, (h.lt g rfl).2, fun i hi => ?_⟩
    rw [Nat.zero_add, h.cellAt _ (by omega), List.getElem?_map, List.getElem?_eq_getElem hi]; rfl
theorem nums_snoc {base : Nat} {xs : List Int} {x : Int} {w : World} {v : Value} (h : w.ownsRow base 3 1 v (xs.length + 1) (xs.map (Value.int .i64) ++ [.int .i64 x])) : w.ownsRow base 3 1 v (xs ++ [x]).length ((xs ++ [x]).map (Value.int .i64)) := by
  rw [List.map_append, List.length_append]; exact h
theorem row_from {w : World} {base n c : Nat} {X : Option Addr} {zs : List Value} (h : w.ownsRow base 3 1 (.slice X n c) n zs) : ∀ a, X = some a → base ≤ a.block := by
  rintro a rfl
  exact (h.lt _ rfl).1

/-- A new slice of these numbers. -/
def NewInts (xs : List Int) (w : World) (e : Ending) (w' : World) : Prop :=
  ∃ X c, e = .returned (.slice X xs.length c) ∧ Ints w' X xs.length xs ∧ (∀ a, X = some a → w.heap.size ≤ a.block) ∧ Below w.heap.size w w'
/-- .. or nil. -/
theorem Try.info3 : (Try.prog.info? 3).map (fun i => (i.zero, i.size, i.bytes)) = some (some (.int .i64 0), 1, 8) := by kernel_rfl

section
variable {w : World} {t m c y : Nat} {T : List Int} {d : Dv}
/-- The keys of a map, sorted. -/
theorem keysOf {f : Int → Option Int} (h : MapF w c f) (hT : Among T f) (hl : T.length < 100000) : ∃ ks, Ris ks ∧ (∀ k, k ∈ ks ↔ (f k).isSome = true) ∧ ks.length ≤ T.length ∧
    Calls Try.prog 53 #[.func (.func 83) #[] #[.pointer (some ⟨w.heap.size, 0, none⟩)]] (w.alloc (.cells #[.map (some c)] 79)) fun e w' => NewInts ks w e w' := by
  obtain ⟨D, ks, hown, hr, hm, h1, h2, hs, hle⟩ := h.size hT
  refine ⟨ks, hr, hm, hle, ?_⟩
  refine (sorted_call c _ D w hown (by unfold maxLen; omega) (by omega)).mono ?_
  rintro e w' ⟨v, ss, rfl, hS, hrow, _, hb⟩
  have hp := keys_perm hown hr (fun k => by rw [hm, h1])
  have e1 : ss.mergeSort leI = ks := by
    rw [mergeSort_of_perm_i (hS.trans hp.symm)]
    exact List.mergeSort_of_pairwise (hr.imp (fun h => by simp only [leI, decide_eq_true_eq]; omega))
  have hlen : ss.length = ks.length := by rw [← e1, List.length_mergeSort]
  rw [e1, hlen] at hrow
  obtain ⟨X, c', rfl⟩ := own_slice hrow
  exact ⟨X, c', rfl, ints_of_nums rfl hrow, fun a ha => Nat.le_trans (by simp) (row_from hrow a ha), ((Below.refl _ _).alloc (Nat.le_refl _) _).trans (hb.mono (by simp))⟩

set_option maxHeartbeats 1600000 in
theorem dirtyD_any (h : DevIs w t m c y T d) : ∃ ks, Ris ks ∧ (∀ k, k ∈ ks ↔ (d.cache k).isSome = true) ∧ ks.length ≤ T.length ∧ Calls Try.prog 25 #[.pointer (some ⟨t, 0, none⟩)] w (NewInts ks w) := by
  have hc := h.c2
  have CO := Lib.hid (ok_cell h.c1)
  obtain ⟨ks, h1, h2, h3, CS0⟩ := keysOf h.mc h.ac h.tf
  refine ⟨ks, h1, h2, h3, ?_⟩
  have CS := Lib.hid CS0
  have CK := Lib.hid (keys_call (some c) w)
  clear h h1 h2 h3 CS0
  go_enter Try.func25, Try.ntmps25
  go_wp2_with (first
    | (go_at_call 46; refine (CO.out).mono ?_; rintro e w' ⟨rfl, hw⟩; rw [hw]; clear hw w')
    | (go_at_call 54; refine (CK.out).mono ?_; rintro e w' ⟨rfl, hw⟩; rw [hw]; clear hw w')
    | (go_at_call 53; refine (CS.out).mono ?_; rintro e w' ⟨X, c', rfl, hI, hX, hb⟩; have HI := Lib.hid hI; have HX := Lib.hid hX; clear hI hX))
  go_ret
  exact ⟨X, c', rfl, HI.out, HX.out, hb⟩
theorem dirtyD_nil (w : World) : Calls Try.prog 25 #[.pointer none] w fun e w' => e = .returned (.slice none 0 0) ∧ w' = w := by
  have CO := Lib.hid (ok_nil w)
  go_enter Try.func25, Try.ntmps25
  go_wp2_with (go_at_call 46; refine (CO.out).mono ?_; rintro e w' ⟨rfl, hw⟩; rw [hw]; clear hw w')
  go_ret
  exact ⟨rfl, rfl⟩

/-- The dirty words of a line, up to one. -/
def lineN (d : Dv) (line : Int) (j : Nat) : List Int := ((List.range j).map (fun k : Nat => line * 8 + (k : Int))).filter (fun i => (d.cache i).isSome)
theorem lineN_succ (d : Dv) (line : Int) (j : Nat) : lineN d line (j + 1) = lineN d line j ++ if (d.cache (line * 8 + j)).isSome = true then [line * 8 + (j : Int)] else [] := by
  unfold lineN
  rw [List.range_succ, List.map_append, List.filter_append]
  congr 1
  simp only [List.map_cons, List.map_nil, List.filter_cons, List.filter_nil]
theorem lineN_len (d : Dv) (line : Int) (j : Nat) : (lineN d line j).length ≤ j := by
  unfold lineN
  refine Nat.le_trans (List.length_filter_le _ _) ?_
  rw [List.length_map, List.length_range]; exact Nat.le_refl _

set_option maxRecDepth 100000 in
set_option maxHeartbeats 4000000 in
theorem dirty_any (h : DevIs w t m c y T d) {line : Int} (h0 : 0 ≤ line) (h1 : line ≤ 4194304) : Calls Try.prog 51 #[.pointer (some ⟨t, 0, none⟩), .int .i64 line] w (NewInts (lineN d line 8) w) := by
  have H := Lib.hid h
  obtain ⟨i0, hi, hz0, hz1, hz2⟩ := info_parts Try.info3
  have htl := h.tl
  clear h
  go_enter Try.func51, Try.ntmps51
  go_wp2
  go_loopw [5, 9] (fun v k wr => ∃ j : Nat, j ≤ 8 ∧ k = .int .i64 j ∧ wr.ownsRow w.heap.size 3 1 v (lineN d line j).length ((lineN d line j).map (Value.int .i64)) ∧ Below w.heap.size w wr) (fun _ k _ => 8 - (intOf k).toNat)
  case atStart => exact ⟨0, by omega, rfl, World.ownsRow_nil _ _ _ _, Below.refl _ _⟩
  case round =>
    obtain ⟨j, hj, rfl, hown, hb⟩ := hrel
    have Hown := Lib.hid hown
    have hbs := hb.size
    by_cases hlt : j < 8
    · have hD := H.out.below hb
      have hc2 := hD.c2
      have LC := (hD.mc.look (k := line * 8 + j) (by unfold W64; omega)).2
      have HL := Lib.hid (lineN_succ d line j)
      have hln := lineN_len d line j
      clear hD hown
      cases hs : d.cache (line * 8 + j) with
      | none =>
        rw [hs] at LC HL
        have HL2 := Lib.hid (HL.out.trans (List.append_nil _))
        clear hs HL
        go_wp2
        go_roundw
        case rel => exact ⟨j + 1, by omega, by go_num, by rw [HL2.out]; exact Hown.out, hb⟩
        case measure => simp [intOf]; omega
      | some x =>
        rw [hs] at LC HL
        have HL2 := Lib.hid (HL.out.trans (show _ = lineN d line j ++ [line * 8 + (j : Int)] from rfl))
        clear hs HL
        generalize lineN d line j = out at *
        go_wp2_with (at_builtin; refine wpList_append_own _ rfl _ _ 45 rfl w.heap.size 3 i0 (.int .i64 0) 1 8 Try.underlying45 hi hz0 hz1 hz2 rfl (by decide) _ out.length (out.map (Value.int .i64)) rfl (Hown.out.alloc _) ⟨wr.heap.size, 0, none⟩ 1 1 [.int .i64 (line * 8 + j)] rfl rfl ?c1 ?c2 ?c3 ?c4 ?c5 ?_)
        case c1 => intro k u hu; first | exact hu | (rcases k with _ | k; (cases hu; rw [show (⟨wr.heap.size, 0, none⟩ : Addr).add 0 = ⟨wr.heap.size, 0, none⟩ from rfl]; go_simp); (cases hu))
        case c2 => intro u hu; rw [List.mem_singleton] at hu; subst hu; rfl
        case c3 => unfold maxLen; omega
        case c4 => omega
        case c5 => simp; omega
        intro v6 w6 hown6 hgrow6 _
        have hb6 := (hb.alloc hb.size (.cells #[.int .i64 (line * 8 + j)] 3)).grown hgrow6 (by simp; omega) (fun k hk => (Hown.out.lt k hk).1)
        have Hown6 := Lib.hid (nums_snoc hown6)
        clear hown6 hgrow6
        go_wp2
        go_roundw
        case rel => exact ⟨j + 1, by omega, by go_num, by rw [HL2.out]; exact Hown6.out, hb6⟩
        case measure => simp [intOf]; omega
    · obtain rfl : j = 8 := by omega
      obtain ⟨X, c', hv⟩ := own_slice hown
      subst hv
      go_wp2
      go_ret
      exact ⟨X, c', rfl, ints_of_nums rfl Hown.out, row_from Hown.out, hb⟩
end
end Go.Proofs.Ytdnoniolpplgiaa
