/- The cache's smaller functions: contracts. -/
import Derived.Test.YtcleabnbdfhmnaaCMap
import Derived.Lib.SliceRun
namespace Go.Proofs.Ytcleabnbdfhmnaa
open Go.RowKit Go.Maps Go.Sort Go.Shelf

theorem add_lit2 (b off k : Nat) : (⟨b, off, none⟩ : Addr).add k = ⟨b, off + k, none⟩ := by unfold Addr.add; split <;> simp_all

/-- A cache that lies at t, its map at b. -/
structure CacheIs (w : World) (t b n : Nat) (most last : Int) (es : List Pg) : Prop where
  c0 : w.cell? ⟨t, 0, none⟩ = some (.int .i64 most)
  c1 : w.cell? ⟨t, 1, none⟩ = some (.int .i64 last)
  c2 : w.cell? ⟨t, 2, none⟩ = some (.map (some b))
  fr : w.frozen? ⟨t, 1, none⟩ = false
  tl : t < w.heap.size
  tb : t ≠ b
  map : CMap w b n es
  ris : RisingC es
  wf : ∀ y ∈ es, 1 ≤ y.id ∧ y.id ≤ last
  lb : 0 ≤ last ∧ last ≤ 1000
  mb : 8 ≤ most ∧ most ≤ 256
  len : es.length ≤ n
  few : n ≤ 1000
  rows : ∀ y ∈ es, y.bs.length = 256 ∧ y.g < w.heap.size ∧ y.g ≠ t ∧ y.g ≠ b ∧ ∀ j, (h : j < y.bs.length) → w.cell? ⟨y.g, j, none⟩ = some (.int .u8 y.bs[j])

theorem frozen_below {w w' : World} (hb : Below w.heap.size w w') {a : Addr} (ha : a.block < w.heap.size) : w'.frozen? a = w.frozen? a := World.frozen?_of_block (hb.block _ ha)

theorem CacheIs.below {w w' : World} {t b n : Nat} {most last : Int} {es : List Pg} (h : CacheIs w t b n most last es) (hb : Below w.heap.size w w') : CacheIs w' t b n most last es :=
  ⟨(hb.cell h.tl).trans h.c0, (hb.cell h.tl).trans h.c1, (hb.cell h.tl).trans h.c2, (frozen_below hb h.tl).trans h.fr, Nat.lt_of_lt_of_le h.tl hb.size, h.tb, h.map.below hb, h.ris, h.wf, h.lb, h.mb, h.len, h.few,
    fun y hy => ⟨(h.rows y hy).1, Nat.lt_of_lt_of_le (h.rows y hy).2.1 hb.size, (h.rows y hy).2.2.1, (h.rows y hy).2.2.2.1, fun j hj => (hb.cell (h.rows y hy).2.1).trans ((h.rows y hy).2.2.2.2 j hj)⟩⟩

set_option maxHeartbeats 1600000 in
theorem okC_cell {w : World} {t b : Nat} (hc : w.cell? ⟨t, 2, none⟩ = some (.map (some b))) : Calls Try.prog 30 #[.pointer (some ⟨t, 0, none⟩)] w fun e w' => e = .returned (.bool true) ∧ w' = w := by
  have hq : ∀ (w : World) (r : Option Nat), (binOp .neq 56 (.map r) (.map none)).run Try.prog w = .ok (.bool (!r.isNone)) w := fun w r => run_neq_map_nil w _ _ _ r Try.underlying56
  go_enter Try.func30, Try.ntmps30
  go_wp2
  go_ret
  exact ⟨rfl, rfl⟩

set_option maxHeartbeats 1600000 in
theorem okC_any {w : World} {t b n : Nat} {most last : Int} {es : List Pg} (h : CacheIs w t b n most last es) : Calls Try.prog 30 #[.pointer (some ⟨t, 0, none⟩)] w fun e w' => e = .returned (.bool true) ∧ w' = w := by
  have hc := h.c2
  have hq : ∀ (w : World) (r : Option Nat), (binOp .neq 56 (.map r) (.map none)).run Try.prog w = .ok (.bool (!r.isNone)) w := fun w r => run_neq_map_nil w _ _ _ r Try.underlying56
  clear h
  go_enter Try.func30, Try.ntmps30
  go_wp2
  go_ret
  exact ⟨rfl, rfl⟩

set_option maxHeartbeats 1600000 in
theorem okC_nil (w : World) : Calls Try.prog 30 #[.pointer none] w fun e w' => e = .returned (.bool false) ∧ w' = w := by
  go_enter Try.func30, Try.ntmps30
  go_wp2
  go_ret
  exact ⟨rfl, rfl⟩

set_option maxHeartbeats 1600000 in
theorem ids_any {w : World} {t b n : Nat} {most last : Int} {es : List Pg} (h : CacheIs w t b n most last es) : Calls Try.prog 23 #[.pointer (some ⟨t, 0, none⟩)] w (NumsOf w.heap.size (es.map Pg.id) w) := by
  have hc := h.c2
  have CO := Lib.hid (okC_any h)
  obtain ⟨D, hown, h1, h2⟩ := h.map
  have hsz := hown.size_le
  have hf := h.few
  have CK := Lib.hid (keysC_call (some b) w)
  have CS := Lib.hid (sortedC_call b n D w hown (by unfold maxLen; omega) (by omega))
  have HK := Lib.hid (fun (ss : List Int) (hp : ss.Perm (intKeys D)) => CMap.keys hown h1 h.ris hp)
  clear h hown h1 h2
  go_enter Try.func23, Try.ntmps23
  go_wp2_with (first
    | (go_at_call 30; refine (CO.out).mono ?_; rintro e w' ⟨rfl, hw⟩; rw [hw]; clear hw w')
    | (go_at_call 32; refine (CK.out).mono ?_; rintro e w' ⟨rfl, hw⟩; rw [hw]; clear hw w')
    | (go_at_call 31; refine (CS.out).mono ?_; rintro e w' ⟨v, ss, rfl, hS, hrow, hnil, hb⟩; have hlen := hS.length_eq; rw [HK.out ss hS] at hrow))
  go_ret
  have hl : ss.length = (es.map Pg.id).length := by rw [← HK.out ss hS, List.length_mergeSort]
  refine ⟨v, rfl, ?_, ((Below.refl _ w).alloc (Nat.le_refl _) _).trans (hb.mono (by simp))⟩
  rw [← hl]
  exact ownsRow_base_a hrow (by simp)

set_option maxHeartbeats 1600000 in
theorem ids_nil (w : World) : Calls Try.prog 23 #[.pointer none] w fun e w' => e = .returned (.slice none 0 0) ∧ w' = w := by
  have CO := Lib.hid (okC_nil w)
  go_enter Try.func23, Try.ntmps23
  go_wp2_with (go_at_call 30; refine (CO.out).mono ?_; rintro e w' ⟨rfl, hw⟩; rw [hw]; clear hw w')
  go_ret
  exact ⟨rfl, rfl⟩

set_option maxHeartbeats 1600000 in
theorem lenC_any {w : World} {t b n : Nat} {most last : Int} {es : List Pg} (h : CacheIs w t b n most last es) : Calls Try.prog 24 #[.pointer (some ⟨t, 0, none⟩)] w fun e w' => e = .returned (.int .i64 (es.length : Int)) ∧ w' = w := by
  have hc := h.c2
  have CO := Lib.hid (okC_any h)
  have hlen := fun ty => h.map.len h.ris ty
  clear h
  go_enter Try.func24, Try.ntmps24
  go_wp2_with (go_at_call 30; refine (CO.out).mono ?_; rintro e w' ⟨rfl, hw⟩; rw [hw]; clear hw w')
  go_ret
  exact ⟨rfl, rfl⟩

set_option maxHeartbeats 1600000 in
theorem lenC_nil (w : World) : Calls Try.prog 24 #[.pointer none] w fun e w' => e = .returned (.int .i64 0) ∧ w' = w := by
  have CO := Lib.hid (okC_nil w)
  go_enter Try.func24, Try.ntmps24
  go_wp2_with (go_at_call 30; refine (CO.out).mono ?_; rintro e w' ⟨rfl, hw⟩; rw [hw]; clear hw w')
  go_ret
  exact ⟨rfl, rfl⟩

set_option maxHeartbeats 1600000 in
theorem mostC_any {w : World} {t b n : Nat} {most last : Int} {es : List Pg} (h : CacheIs w t b n most last es) : Calls Try.prog 25 #[.pointer (some ⟨t, 0, none⟩)] w fun e w' => e = .returned (.int .i64 most) ∧ w' = w := by
  have hc := h.c0
  have CO := Lib.hid (okC_any h)
  clear h
  go_enter Try.func25, Try.ntmps25
  go_wp2_with (go_at_call 30; refine (CO.out).mono ?_; rintro e w' ⟨rfl, hw⟩; rw [hw]; clear hw w')
  go_ret
  exact ⟨rfl, rfl⟩

set_option maxHeartbeats 1600000 in
theorem mostC_nil (w : World) : Calls Try.prog 25 #[.pointer none] w fun e w' => e = .returned (.int .i64 0) ∧ w' = w := by
  have CO := Lib.hid (okC_nil w)
  go_enter Try.func25, Try.ntmps25
  go_wp2_with (go_at_call 30; refine (CO.out).mono ?_; rintro e w' ⟨rfl, hw⟩; rw [hw]; clear hw w')
  go_ret
  exact ⟨rfl, rfl⟩

set_option maxHeartbeats 1600000 in
theorem eldest_any {w : World} {t b n : Nat} {most last : Int} {es : List Pg} (h : CacheIs w t b n most last es) : Calls Try.prog 22 #[.pointer (some ⟨t, 0, none⟩)] w fun e w' => e = .returned (.tuple #[.int .i64 ((es.head?.map Pg.id).getD 0), .bool (!es.isEmpty)]) ∧ Below w.heap.size w w' := by
  have CI := Lib.hid (ids_any h)
  clear h
  cases es with
  | nil =>
    go_enter Try.func22, Try.ntmps22
    go_wp2_with (go_at_call 23; refine (CI.out).mono ?_; rintro e w2 ⟨v2, rfl, hown2, hb2⟩; rw [List.length_map, List.length_nil] at hown2; obtain ⟨X, c, rfl⟩ := own_slice hown2; clear hown2)
    exact bodyPost_ret (v := .tuple #[.int .i64 0, .bool false]) (by simp [results, Try.results22, go_sem]) rfl ⟨rfl, hb2⟩
  | cons x l =>
    have hl0 : ((l.length : Int) + 1 == 0) = false := by rw [beq_eq_false_iff_ne]; omega
    go_enter Try.func22, Try.ntmps22
    go_wp2_with (go_at_call 23; (refine (CI.out).mono ?_; rintro e w2 ⟨v2, rfl, hown2, hb2⟩; rw [List.length_map] at hown2; obtain ⟨X, c, rfl⟩ := own_slice hown2; obtain ⟨g, off, rfl, hgl, y, hy, c0⟩ := (ints_of_nums (List.length_map _) hown2).at (show 0 < (x :: l).length by simp); have c0 : w2.cell? ⟨g, off, none⟩ = _ := c0; cases hy; have hl1 : (0 : Int) < ((x :: l).length : Int) := by (rw [List.length_cons]; omega)); clear hown2)
    exact bodyPost_ret (v := .tuple #[.int .i64 x.id, .bool true]) (by simp [results, Try.results22, go_sem]) rfl ⟨rfl, hb2⟩

/-- Room, for a number that is not below 0. -/
def roomB (most : Int) (es : List Pg) (k : Int) : Bool := decide (k ≤ most - es.length)
set_option maxRecDepth 100000 in
set_option maxHeartbeats 4000000 in
theorem room_any {w : World} {t b n : Nat} {most last : Int} {es : List Pg} (h : CacheIs w t b n most last es) {k : Int} (hk : 0 ≤ k ∧ k ≤ 1000) : Calls Try.prog 26 #[.pointer (some ⟨t, 0, none⟩), .int .i64 k] w fun e w' => e = .returned (.bool (roomB most es k)) ∧ Below w.heap.size w w' := by
  have hc0 := h.c0
  have hc2 := h.c2
  have CO := Lib.hid (okC_any h)
  have HL0 := fun (w' : World) (hb : Below w.heap.size w w') (ty : TypeId) => (h.map.below hb).len h.ris ty
  have hmb := h.mb
  have hle := h.len
  have hfe := h.few
  obtain ⟨hk0, hk1⟩ := hk
  have z1 : decide (0 ≤ k) = true := by rw [decide_eq_true_iff]; exact hk0
  have hw : wrap64 (most - es.length) = most - es.length := by unfold wrap64; omega
  unfold roomB
  clear h
  have HL := Lib.hid HL0
  clear HL0
  generalize (es.length : Int) = m at *
  go_enter Try.func26, Try.ntmps26
  go_upto_region 1 with fail
  go_region_held3 (fun w' => w'.cell? ⟨t, 0, none⟩ = some (.int .i64 most) ∧ w'.cell? ⟨t, 2, none⟩ = some (.map (some b)) ∧ (∀ ty, (Builtin.len_ #[56] ty #[.map (some b)]).run Try.prog w' = .ok (.int .i64 m) w') ∧ Below w.heap.size w w')
    (first | assumption | (refine ⟨?_, ?_, ?_, ?_⟩ <;> first | exact (Below.refl _ _).drew | exact Below.refl _ _ | exact HL.out _ ((Below.refl _ _).drew) | exact HL.out _ (Below.refl _ _) | go_keep))
    ((go_at_call 30; refine (okC_cell (by first | assumption | exact And.left (And.right (by assumption)))).mono ?_; rintro e w9 ⟨rfl, rfl⟩))
  go_wp2
  go_ret
  refine ⟨?_, (Below.refl _ _).drew⟩
  show Ending.returned (Value.bool (decide (k ≤ IntKind.i64.wrap (most - m)))) = _
  rw [IntWalk.i64_left, hw]

set_option maxHeartbeats 1600000 in
theorem room_nil (w : World) (k : Int) : Calls Try.prog 26 #[.pointer none, .int .i64 k] w fun e w' => e = .returned (.bool false) ∧ Below w.heap.size w w' := by
  go_enter Try.func26, Try.ntmps26
  go_upto_region 1 with fail
  go_quiet ((go_at_call 30; refine Calls.quiet_of_same (okC_nil _)))
  go_wp2
  go_ret
  exact ⟨rfl, below_drewN (Below.refl _ _) _⟩

/-- A slice reads as these bytes. -/
def BytesAt (w : World) (A : Option Addr) (n : Nat) (bs : List Int) : Prop :=
  bs.length = n ∧ (bs = [] ∨ ∃ b off, A = some ⟨b, off, none⟩ ∧ b < w.heap.size ∧ ∀ i, (h : i < bs.length) → w.cell? ⟨b, off + i, none⟩ = some (.int .u8 bs[i]))
theorem Try.info5 : (Try.prog.info? 5).map (fun i => (i.zero, i.size, i.bytes)) = some (some (.int .u8 0), 1, 1) := by kernel_rfl

set_option maxRecDepth 100000 in
set_option maxHeartbeats 4000000 in
theorem cloneB_any {A : Option Addr} {n : Nat} {bs : List Int} {w : World} (cap : Nat) (h : BytesAt w A n bs) (hn : A = none → cap = 0) (hm : n ≤ 400) : Calls Try.prog 29 #[.slice A n cap] w fun e w' => ∃ v, e = .returned v ∧ w'.ownsRow w.heap.size 5 1 v n (bs.map (Value.int .u8)) ∧ Below w.heap.size w w' := by
  have hl := h.1
  obtain ⟨i0, hi, hz0, hz1, hz2⟩ := info_parts Try.info5
  cases A with
  | none =>
    have hxs : bs = [] := by
      rcases h.2 with h2 | ⟨b, off, e, _⟩
      · exact h2
      · cases e
    subst hxs
    have h0 : n = 0 := hl.symm
    have hc := hn rfl
    subst h0 hc
    clear hn hl hi hz0 hz1 hz2
    have hnil : ∀ w' : World, (binOp .eql 37 (.slice none 0 0) (.slice none 0 0)).run Try.prog w' = .ok (.bool true) w' := fun w' => Lib.run_eql_slice_nil w' 37 5 none 0 0 0 0 Try.underlying37
    go_enter Try.func29, Try.ntmps29
    go_wp2
    go_ret
    exact ⟨_, rfl, World.ownsRow_nil _ _ _ _, Below.refl _ _⟩
  | some a =>
    have H := Lib.hid h
    clear h hn
    have hnil : ∀ w' : World, (binOp .eql 37 (.slice (some a) n cap) (.slice none 0 0)).run Try.prog w' = .ok (.bool false) w' := fun w' => Lib.run_eql_slice_nil w' 37 5 (some a) n cap 0 0 Try.underlying37
    have hadd : ∀ (w' : World), Below w.heap.size w w' → ∀ j u, (bs.map (Value.int .u8))[j]? = some u → w'.cell? (a.add j) = some u := by
      intro w' hb j u hu
      have hj := (List.getElem?_eq_some_iff.1 hu).1
      rw [List.length_map] at hj
      rcases H.out.2 with h2 | ⟨b, off, e, hl, hc⟩
      · subst h2; simp at hj
      · cases e
        rw [add_lit2, (hb.cell hl), hc j hj]
        rw [List.getElem?_map, List.getElem?_eq_getElem hj] at hu
        exact hu
    have Hown0 := Lib.hid (World.ownsRow_lit (base := w.heap.size) (e := 5) (size := 1) w #[] 0 (Nat.le_refl _) (by unfold maxLen; omega) rfl)
    have hb0 : Below w.heap.size w (w.alloc (.cells #[] 5)) := (Below.refl _ _).alloc (Nat.le_refl _) _
    have hcl : (bs.map (Value.int .u8)).length = n := by rw [List.length_map]; exact hl
    go_enter Try.func29, Try.ntmps29
    go_wp2_with (at_builtin; refine wpList_append_own _ rfl _ _ 37 rfl w.heap.size 5 i0 (.int .u8 0) 1 1 Try.underlying37 hi hz0 hz1 hz2 rfl (by decide) _ 0 [] rfl Hown0.out a n cap (bs.map (Value.int .u8)) rfl ?c0 ?c1 ?c2 ?c3 ?c4 ?c5 ?_)
    case c1 => intro j u hu; exact hadd _ hb0 j _ (by rw [List.getElem?_map, hu]; rfl)
    case c2 => intro u hu; rfl
    case c3 => unfold maxLen; omega
    case c4 => omega
    intro v' w3 hown3 hgrow3 _
    have hb3 := hb0.grown hgrow3 hb0.size (fun k hk => (Hown0.out.lt k hk).1)
    have Hown3 := Lib.hid hown3
    clear hown3
    go_wp2
    go_ret
    exact ⟨_, rfl, Hown3.out, hb3⟩
end Go.Proofs.Ytcleabnbdfhmnaa
