/- The cache's Get, Drop, Put and New: contracts. -/
import Derived.Test.YtcleabnbdfhmnaaCache
import Derived.Test.YtcleabnbdfhmnaaMay
namespace Go.Proofs.Ytcleabnbdfhmnaa
open Go.RowKit Go.Maps Go.Sort Go.Shelf

theorem CacheIs.bytes {w : World} {t b n : Nat} {most last : Int} {es : List Pg} (h : CacheIs w t b n most last es) {y : Pg} (hy : y ∈ es) : BytesAt w (some ⟨y.g, 0, none⟩) 256 y.bs := by
  obtain ⟨h1, h2, _, _, h3⟩ := h.rows y hy
  exact ⟨h1, .inr ⟨y.g, 0, rfl, h2, fun i hi => by rw [Nat.zero_add]; exact h3 i hi⟩⟩

set_option maxRecDepth 100000 in
set_option maxHeartbeats 4000000 in
theorem get_any {w : World} {t b n : Nat} {most last : Int} {es : List Pg} (h : CacheIs w t b n most last es) {y : Pg} (hy : y ∈ es) : Calls Try.prog 20 #[.pointer (some ⟨t, 0, none⟩), .int .i64 y.id] w fun e w' => ∃ v, e = .returned (.tuple #[v, .bool true]) ∧ w'.ownsRow w.heap.size 5 1 v 256 (y.bs.map (Value.int .u8)) ∧ Below w.heap.size w w' := by
  have hc := h.c2
  have CO := Lib.hid (okC_any h)
  have hid : W64 y.id := by have := h.wf y hy; have := h.lb; unfold W64; omega
  have hl := h.map.look hy hid
  have CC := Lib.hid (cloneB_any y.c (h.bytes hy) (fun e => by cases e) (by omega))
  clear h
  go_enter Try.func20, Try.ntmps20
  go_wp2_with (first
    | (go_at_call 30; refine (CO.out).mono ?_; rintro e w' ⟨rfl, hw⟩; rw [hw]; clear hw w')
    | (go_at_call 29; refine (CC.out).mono ?_; rintro e w2 ⟨v, rfl, hown, hb⟩; have Hown := Lib.hid hown; clear hown))
  exact bodyPost_ret (v := .tuple #[v, .bool true]) (by simp [results, Try.results20, go_sem]) rfl ⟨v, rfl, Hown.out, hb⟩

set_option maxRecDepth 100000 in
set_option maxHeartbeats 4000000 in
theorem get_no {w : World} {t b n : Nat} {most last : Int} {es : List Pg} (h : CacheIs w t b n most last es) {k : Int} (hk : W64 k) (hn : es.any (fun y => y.id == k) = false) : Calls Try.prog 20 #[.pointer (some ⟨t, 0, none⟩), .int .i64 k] w fun e w' => ∃ v, e = .returned (.tuple #[v, .bool false]) ∧ w'.ownsRow w.heap.size 5 1 v 0 [] ∧ Below w.heap.size w w' := by
  have hc := h.c2
  have CO := Lib.hid (okC_any h)
  have hl := h.map.lookNo hn hk
  have CC := Lib.hid (cloneB_any (w := w) (A := none) (n := 0) (bs := []) 0 ⟨rfl, .inl rfl⟩ (fun _ => rfl) (by omega))
  clear h
  go_enter Try.func20, Try.ntmps20
  go_wp2_with (first
    | (go_at_call 30; refine (CO.out).mono ?_; rintro e w' ⟨rfl, hw⟩; rw [hw]; clear hw w')
    | (go_at_call 29; refine (CC.out).mono ?_; rintro e w2 ⟨v, rfl, hown, hb⟩; have Hown := Lib.hid hown; clear hown))
  exact bodyPost_ret (v := .tuple #[v, .bool false]) (by simp [results, Try.results20, go_sem]) rfl ⟨v, rfl, Hown.out, hb⟩

set_option maxHeartbeats 1600000 in
theorem get_nil (w : World) (k : Int) : Calls Try.prog 20 #[.pointer none, .int .i64 k] w fun e w' => e = .returned (.tuple #[.slice none 0 0, .bool false]) ∧ w' = w := by
  have CO := Lib.hid (okC_nil w)
  go_enter Try.func20, Try.ntmps20
  go_wp2_with (go_at_call 30; refine (CO.out).mono ?_; rintro e w' ⟨rfl, hw⟩; rw [hw]; clear hw w')
  exact bodyPost_ret (v := .tuple #[.slice none 0 0, .bool false]) (by simp [results, Try.results20, go_sem]) rfl ⟨rfl, rfl⟩

/-- All but the blocks t and b is as it was. -/
structure Kept2 (w w' : World) (t b : Nat) : Prop where
  os : w'.os = w.os
  tape : w'.tape = w.tape
  output : w'.output = w.output
  size : w.heap.size ≤ w'.heap.size
  block : ∀ k, k < w.heap.size → k ≠ t → k ≠ b → w'.heap[k]? = w.heap[k]?
theorem Kept2.of_below {w w' : World} {t b : Nat} (h : Below w.heap.size w w') : Kept2 w w' t b := ⟨h.os, h.tape, h.output, h.size, fun k hk _ _ => h.block k hk⟩
theorem Kept2.of_grown {w w' : World} {t b : Nat} (h : w.grownBy w' (some b)) : Kept2 w w' t b := ⟨h.os, h.tape, h.output, h.size, fun k hk _ hb => h.block k hk (by simpa using hb)⟩
theorem Kept2.of_grownT {w w' : World} {t b : Nat} (h : w.grownBy w' (some t)) : Kept2 w w' t b := ⟨h.os, h.tape, h.output, h.size, fun k hk ht _ => h.block k hk (by simpa using ht)⟩
theorem Kept2.trans {w w1 w2 : World} {t b : Nat} (h : Kept2 w w1 t b) (k : Kept2 w1 w2 t b) : Kept2 w w2 t b :=
  ⟨k.os.trans h.os, k.tape.trans h.tape, k.output.trans h.output, Nat.le_trans h.size k.size, fun i hi ht hb => (k.block i (Nat.lt_of_lt_of_le hi h.size) ht hb).trans (h.block i hi ht hb)⟩
theorem Kept2.below {w0 w w' : World} {base t b : Nat} (h : Below base w0 w) (k : Kept2 w w' t b) (ht : base ≤ t) (hb : base ≤ b) (hs : base ≤ w.heap.size) : Below base w0 w' :=
  ⟨k.os.trans h.os, k.tape.trans h.tape, k.output.trans h.output, Nat.le_trans h.size k.size, fun i hi => (k.block i (Nat.lt_of_lt_of_le hi hs) (by omega) (by omega)).trans (h.block i hi)⟩

set_option maxRecDepth 100000 in
set_option maxHeartbeats 4000000 in
theorem drop_any {w : World} {t b n : Nat} {most last : Int} {es : List Pg} (h : CacheIs w t b n most last es) {y : Pg} (hy : y ∈ es) : Calls Try.prog 21 #[.pointer (some ⟨t, 0, none⟩), .int .i64 y.id] w fun e w' => e = .returned (.bool true) ∧ CacheIs w' t b n most last (delC es y.id) ∧ w.grownBy w' (some b) := by
  have H := Lib.hid h
  have CG := Lib.hid (get_any h hy)
  have hid : W64 y.id := by have := h.wf y hy; have := h.lb; unfold W64; omega
  have hkey := keyOf_int_mk Try.underlying3 hid.wf
  clear h
  go_enter Try.func21, Try.ntmps21
  go_wp2_with (first
    | (go_at_call 20; refine (CG.out).mono ?_; rintro e w2 ⟨v, rfl, hown, hb2⟩; clear hown; have HT := Lib.hid (H.out.below hb2); have hc := HT.out.c2; obtain ⟨D, hown, h1, h2⟩ := HT.out.map; have Hown := Lib.hid hown; have H1 := Lib.hid h1; have H2 := Lib.hid h2; clear hown h1 h2)
    | (at_delete; refine wpList_delete_own _ rfl _ _ 56 3 rfl 37 keyed3 Try.underlying56 pageR b n D rfl Hown.out _ _ rfl hkey ?_; intro w4 hown4 hturn4; have hp := CMap.delD (k := y.id) H1.out H2.out; have HM := Lib.hid (show CMap w4 b n (delC es y.id) from ⟨_, hown4, hp.1, hp.2⟩); have HG := Lib.hid hturn4.grown; have HF := Lib.hid (fun a => hturn4.frozen a); clear hp hown4 hturn4))
  go_ret
  have hg := HG.out
  have hc := HT.out
  have htb : some t ≠ some b := by simpa using hc.tb
  refine ⟨rfl, ⟨hg.cell hc.c0 htb, hg.cell hc.c1 htb, hg.cell hc.c2 htb, (HF.out _).trans hc.fr, Nat.lt_of_lt_of_le hc.tl hg.size, hc.tb, HM.out, List.Pairwise.filter _ hc.ris, fun z hz => hc.wf z (List.mem_filter.1 hz).1, hc.lb, hc.mb, Nat.le_trans (List.length_filter_le _ _) hc.len, hc.few, fun z hz => ?_⟩, grown_trans (grownBy_of hb2) hg⟩
  obtain ⟨r1, r2, r3, r4, r5⟩ := hc.rows z (List.mem_filter.1 hz).1
  exact ⟨r1, Nat.lt_of_lt_of_le r2 hg.size, r3, r4, fun j hj => hg.cell (r5 j hj) (by simpa using r4)⟩

set_option maxRecDepth 100000 in
set_option maxHeartbeats 4000000 in
theorem drop_no {w : World} {t b n : Nat} {most last : Int} {es : List Pg} (h : CacheIs w t b n most last es) {k : Int} (hk : W64 k) (hn : es.any (fun y => y.id == k) = false) : Calls Try.prog 21 #[.pointer (some ⟨t, 0, none⟩), .int .i64 k] w fun e w' => e = .returned (.bool false) ∧ Below w.heap.size w w' := by
  have CG := Lib.hid (get_no h hk hn)
  go_enter Try.func21, Try.ntmps21
  go_wp2_with (go_at_call 20; refine (CG.out).mono ?_; rintro e w2 ⟨v, rfl, hown, hb2⟩; clear hown)
  go_ret
  exact ⟨rfl, hb2⟩

set_option maxHeartbeats 1600000 in
theorem drop_nil (w : World) (k : Int) : Calls Try.prog 21 #[.pointer none, .int .i64 k] w fun e w' => e = .returned (.bool false) ∧ w' = w := by
  have CG := Lib.hid (get_nil w k)
  go_enter Try.func21, Try.ntmps21
  go_wp2_with (go_at_call 20; refine (CG.out).mono ?_; rintro e w2 ⟨rfl, hw⟩; rw [hw]; clear hw w2)
  go_ret
  exact ⟨rfl, rfl⟩

set_option maxRecDepth 100000 in
set_option maxHeartbeats 4000000 in
theorem newC_any (w : World) (k : Int) : Calls Try.prog 18 #[.int .i64 k] w fun e w' => ∃ t b, e = .returned (.pointer (some ⟨t, 0, none⟩)) ∧ CacheIs w' t b 0 (min (max k 8) 256) 0 [] ∧ Below w.heap.size w w' ∧ w.heap.size ≤ t ∧ w.heap.size ≤ b := by
  have hmm := @run_makeMap Try.prog
  go_enter Try.func18, Try.ntmps18
  go_wp2
  go_ret
  exact ⟨_, _, rfl, ⟨by go_simp, by go_simp, by go_simp, by go_simp, by simp, by simp, ⟨.map [], (World.ownsMap_made w _ _ _).alloc _, fun k => rfl, (fun y hy => by cases hy)⟩, List.Pairwise.nil, (fun y hy => by cases hy), ⟨Int.le_refl _, by omega⟩, by omega, Nat.le_refl _, by omega, (fun y hy => by cases hy)⟩, ((Below.refl _ _).alloc (Nat.le_refl _) _).alloc (by simp) _, by simp, Nat.le_refl _⟩
end Go.Proofs.Ytcleabnbdfhmnaa
