/- The cache's Put: a contract. -/
import Derived.Test.YtcleabnbdfhmnaaCache2
import Derived.Lib.BufferWrite
namespace Go.Proofs.Ytcleabnbdfhmnaa
open Go.RowKit Go.Maps Go.Sort Go.Shelf

/-- A page goes into the map. -/
theorem run_put {w : World} {b n : Nat} {xs : List Pg} (hc : CMap w b n xs) {id : Int} (hw : W64 id) (hno : xs.any (fun y => y.id == id) = false) (hn : n < 1000) (g c : Nat) (bs : List Int) :
    ∃ w', (Instr.mapUpdate 56 (.map (some b)) (.int .i64 id) (.slice (some ⟨g, 0, none⟩) 256 c)).run Try.prog w = .ok () w' ∧ CMap w' b (n + 1) (insC xs ⟨id, g, c, bs⟩) ∧ w.mapTurned w' b := by
  obtain ⟨D, hown, h1, h2⟩ := hc
  have hR : pageR (.slice (some ⟨g, 0, none⟩) 256 c) = some (pageD g c, []) := rfl
  obtain ⟨w', hrun, r1, r2⟩ := hown.store keyed3 Try.underlying56 (by unfold maxLen; omega) (keyOf_int_mk Try.underlying3 hw.wf) hR
  have hp := CMap.putD (d := ⟨id, g, c, bs⟩) hw hown.isMap hno h1 h2
  exact ⟨w', hrun, ⟨_, r1, hp.1, hp.2⟩, r2⟩

theorem CacheIs.bump {w : World} {t b n : Nat} {most last : Int} {es : List Pg} (h : CacheIs w t b n most last es) (hl : last < 1000) : CacheIs (w.setCell ⟨t, 1, none⟩ (.int .i64 (last + 1))) t b n most (last + 1) es := by
  have hg := Lib.grownBy_setCell w t 1 (.int .i64 (last + 1))
  have hbt : b ≠ t := fun e => h.tb e.symm
  refine ⟨(World.cell?_setCell_other _ _ _ _ (by simp)).trans h.c0, World.cell?_setCell_same _ _ _ h.c1, (World.cell?_setCell_other _ _ _ _ (by simp)).trans h.c2, by rw [World.frozen?_setCell]; exact h.fr, Nat.lt_of_lt_of_le h.tl hg.size, h.tb, h.map.kept hg (by simpa using hbt), h.ris, fun y hy => ⟨(h.wf y hy).1, by have := (h.wf y hy).2; omega⟩, by have := h.lb; omega, h.mb, h.len, h.few, fun y hy => ?_⟩
  obtain ⟨r1, r2, r3, r4, r5⟩ := h.rows y hy
  exact ⟨r1, Nat.lt_of_lt_of_le r2 hg.size, r3, r4, fun j hj => (World.cell?_setCell_other _ _ _ _ (by intro e; cases e; exact r3 rfl)).trans (r5 j hj)⟩
theorem BytesAt.kept {w w' : World} {A : Option Addr} {n t b : Nat} {bs : List Int} (h : BytesAt w A n bs) (hk : Kept2 w w' t b) (ht : ∀ a, A = some a → a.block ≠ t) (hb : ∀ a, A = some a → a.block ≠ b) : BytesAt w' A n bs := by
  refine ⟨h.1, h.2.imp id ?_⟩
  rintro ⟨g, off, rfl, hl, hc⟩
  refine ⟨g, off, rfl, Nat.lt_of_lt_of_le hl hk.size, fun i hi => ?_⟩
  have hb := hk.block g hl (ht _ rfl) (hb _ rfl)
  have := hc i hi
  simp only [World.cell?, hb] at this ⊢
  exact this
theorem BytesAt.below {w w' : World} {A : Option Addr} {n : Nat} {bs : List Int} (h : BytesAt w A n bs) (hk : Below w.heap.size w w') : BytesAt w' A n bs :=
  ⟨h.1, h.2.imp id (fun ⟨g, off, e, hl, hc⟩ => ⟨g, off, e, Nat.lt_of_lt_of_le hl hk.size, fun i hi => (hk.cell hl).trans (hc i hi)⟩)⟩
theorem row256 {w : World} {base : Nat} {v : Value} {bs : List Int} (hl : bs.length = 256) (h : w.ownsRow base 5 1 v 256 (bs.map (Value.int .u8))) : ∃ g c, v = .slice (some ⟨g, 0, none⟩) 256 c ∧ base ≤ g ∧ g < w.heap.size ∧ ∀ j, (h : j < bs.length) → w.cell? ⟨g, j, none⟩ = some (.int .u8 bs[j]) := by
  rcases h.2 with ⟨_, h⟩ | ⟨g, cap, cur, rfl, hg, hh, h1, h2, h3, h4⟩
  · cases h
  · refine ⟨g, cap, rfl, hg, ?_, fun j hj => ?_⟩
    · have := (Array.getElem?_eq_some_iff.1 hh).1; exact this
    · have h5 : cur.toList[j]? = some (.int .u8 bs[j]) := by
        have : (cur.toList.take (256 * 1))[j]? = (bs.map (Value.int .u8))[j]? := by rw [h4]
        rw [List.getElem?_take_of_lt (by omega), List.getElem?_map, List.getElem?_eq_getElem hj] at this
        exact this
      simp only [World.cell?, hh]
      simpa using h5
theorem CacheIs.put {W w3 w4 : World} {t b n : Nat} {most last id : Int} {es : List Pg} {g c : Nat} {bs : List Int} (h : CacheIs W t b n most last es) (hid : ∀ y ∈ es, y.id < id) (h1 : 1 ≤ id) (h2 : id ≤ last) (hb3 : Below W.heap.size W w3) (hm : CMap w4 b (n + 1) (insC es ⟨id, g, c, bs⟩)) (hg4 : w3.grownBy w4 (some b)) (hF : ∀ a, w4.frozen? a = w3.frozen? a) (hl : bs.length = 256) (hn : n < 1000) (hg : W.heap.size ≤ g) (hg2 : g < w3.heap.size)
    (hc : ∀ j, (h : j < bs.length) → w3.cell? ⟨g, j, none⟩ = some (.int .u8 bs[j])) : CacheIs w4 t b (n + 1) most last (es ++ [⟨id, g, c, bs⟩]) := by
  have h3 := h.below hb3
  have htb : some t ≠ some b := by simpa using h.tb
  rw [insC_last hid] at hm
  have hbl := h.map.lt
  have htl := h.tl
  refine ⟨hg4.cell h3.c0 htb, hg4.cell h3.c1 htb, hg4.cell h3.c2 htb, (hF _).trans h3.fr, Nat.lt_of_lt_of_le h3.tl hg4.size, h.tb, hm, ?_, ?_, h.lb, h.mb, by have := h.len; simp; omega, by omega, ?_⟩
  · unfold RisingC
    rw [List.pairwise_append]
    exact ⟨h.ris, List.pairwise_singleton _ _, fun y hy z hz => by rw [List.mem_singleton] at hz; subst hz; exact hid y hy⟩
  · intro y hy
    rcases List.mem_append.1 hy with hy | hy
    · exact h.wf y hy
    · rw [List.mem_singleton] at hy; subst hy; exact ⟨h1, h2⟩
  · intro y hy
    rcases List.mem_append.1 hy with hy | hy
    · obtain ⟨r1, r2, r3, r4, r5⟩ := h3.rows y hy
      exact ⟨r1, Nat.lt_of_lt_of_le r2 hg4.size, r3, r4, fun j hj => hg4.cell (r5 j hj) (by simpa using r4)⟩
    · rw [List.mem_singleton] at hy; subst hy
      exact ⟨hl, Nat.lt_of_lt_of_le hg2 hg4.size, by simp only; omega, by simp only; omega, fun j hj => hg4.cell (hc j hj) (by simp; omega)⟩
theorem below_chain {w0 w w' : World} (h : Below w0.heap.size w0 w) (k : Below w.heap.size w w') : Below w0.heap.size w0 w' := h.trans (k.mono h.size)

set_option maxRecDepth 100000 in
set_option maxHeartbeats 4000000 in
theorem put_any {w : World} {t b n : Nat} {most last : Int} {es : List Pg} (h : CacheIs w t b n most last es) {A : Option Addr} {bs : List Int} (cap : Nat) (hB : BytesAt w A 256 bs) (hr : (es.length : Int) < most) (hl : last < 1000) (hn : n < 1000) (htB : ∀ a, A = some a → a.block ≠ b) (htA : ∀ a, A = some a → a.block ≠ t) :
    Calls Try.prog 19 #[.pointer (some ⟨t, 0, none⟩), .slice A 256 cap] w fun e w' => ∃ g c, e = .returned (.tuple #[.int .i64 (last + 1), .bool true]) ∧ CacheIs w' t b (n + 1) most (last + 1) (es ++ [⟨last + 1, g, c, bs⟩]) ∧ Kept2 w w' t b ∧ w.heap.size ≤ g := by
  have H := Lib.hid h
  have CR := Lib.hid (room_any h (k := 1) (by omega))
  have hrB : roomB most es 1 = true := by unfold roomB; rw [decide_eq_true_iff]; omega
  rw [hrB] at CR
  have hlb := h.lb
  have hw1 : IntKind.i64.wrap (last + 1) = last + 1 := by rw [IntWalk.i64_left]; unfold wrap64; omega
  have hnew : es.any (fun y => y.id == last + 1) = false := by
    rw [List.any_eq_false]; intro y hy e; have := (h.wf y hy).2; have : y.id = last + 1 := by simpa using e
    omega
  have hlt : ∀ y ∈ es, y.id < last + 1 := fun y hy => by have := (h.wf y hy).2; omega
  clear h hrB
  go_enter Try.func19, Try.ntmps19
  go_upto_region 3 with (go_at_call 26; refine (CR.out).mono ?_; rintro e w2 ⟨rfl, hb2⟩; have HT := Lib.hid (H.out.below hb2); have hc1 := HT.out.c1; have hc2 := HT.out.c2; have hfr := HT.out.fr)
  go_upto_region 4 with fail
  obtain ⟨W, hW⟩ : ∃ W, W = w2.setCell ⟨t, 1, none⟩ (.int .i64 (last + 1)) := ⟨_, rfl⟩
  rw [← hW]
  have HU := Lib.hid (show CacheIs W t b n most (last + 1) es from hW ▸ HT.out.bump hl)
  have HK := Lib.hid (show Kept2 w W t b from hW ▸ (Kept2.of_below hb2).trans (Kept2.of_grownT (Lib.grownBy_setCell _ _ _ _)))
  have HBA := Lib.hid (show BytesAt W A 256 bs from hB.kept HK.out htA htB)
  clear hW hb2 HT hc1 hc2 hfr CR
  have hc1 := HU.out.c1
  have hc2 := HU.out.c2
  have hS : ∀ w' : World, W.grownBy w' (some b) → w'.cell? ⟨t, 1, none⟩ = some (.int .i64 (last + 1)) ∧ w'.cell? ⟨t, 2, none⟩ = some (.map (some b)) := fun w' hg => ⟨hg.cell hc1 (by simpa using HU.out.tb), hg.cell hc2 (by simpa using HU.out.tb)⟩
  go_region_held3 (fun w' => w'.cell? ⟨t, 1, none⟩ = some (.int .i64 (last + 1)) ∧ w'.cell? ⟨t, 2, none⟩ = some (.map (some b)))
    (first | assumption | (refine hS _ ?_; first | assumption | exact grownBy_of (Below.refl _ _).drew | exact grownBy_of (Below.refl _ _)))
    ((go_at_call 29; refine (cloneB_any cap (A := A) (n := 256) (bs := bs) (HBA.out.below (by first | exact (Below.refl _ _).drew | exact Below.refl _ _)) (fun e => by subst e; rcases HBA.out.2 with h2 | ⟨_, _, h2, _⟩; (have := HBA.out.1; subst h2; cases this); cases h2) (by omega)).mono ?_; rintro e w3 ⟨v, rfl, hown3, hb3⟩; obtain ⟨g, c, rfl, hg, hg2, hcells⟩ := row256 HBA.out.1 hown3; clear hown3; have hb3 : Below W.heap.size W w3 := by (first | exact below_chain (Below.refl _ _).drew hb3 | exact hb3)
      have hw3 : W.grownBy w3 (some b) := grownBy_of hb3
      obtain ⟨w4, hrun4, hm4, ht4⟩ := run_put (HU.out.map.below hb3) (id := last + 1) (by unfold W64; omega) hnew hn g c bs
      have hw4 : W.grownBy w4 (some b) := grown_trans hw3 ht4.grown
      have HD4 := Lib.hid (HU.out.put hlt (by omega) (by omega) hb3 hm4 ht4.grown ht4.frozen HBA.out.1 hn hg hg2 hcells)
      clear ht4))
  go_wp2
  exact bodyPost_ret (v := .tuple #[.int .i64 (last + 1), .bool true]) (by simp [results, Try.results19, go_sem]) rfl ⟨g, c, rfl, HD4.out, HK.out.trans (Kept2.of_grown hw4), Nat.le_trans HK.out.size hg⟩

set_option maxRecDepth 100000 in
set_option maxHeartbeats 4000000 in
theorem put_full {w : World} {t b n : Nat} {most last : Int} {es : List Pg} (h : CacheIs w t b n most last es) (A : Option Addr) (m cap : Nat) (hr : ¬ (es.length : Int) < most) :
    Calls Try.prog 19 #[.pointer (some ⟨t, 0, none⟩), .slice A m cap] w fun e w' => e = .returned (.tuple #[.int .i64 0, .bool false]) ∧ Below w.heap.size w w' := by
  have CR := Lib.hid (room_any h (k := 1) (by omega))
  have hrB : roomB most es 1 = false := by unfold roomB; rw [decide_eq_false_iff_not]; omega
  rw [hrB] at CR
  clear h hrB hr
  go_enter Try.func19, Try.ntmps19
  go_wp2_with (go_at_call 26; refine (CR.out).mono ?_; rintro e w2 ⟨rfl, hb2⟩)
  exact bodyPost_ret (v := .tuple #[.int .i64 0, .bool false]) (by simp [results, Try.results19, go_sem]) rfl ⟨rfl, hb2⟩

set_option maxRecDepth 100000 in
set_option maxHeartbeats 4000000 in
theorem put_len {w : World} {t b n : Nat} {most last : Int} {es : List Pg} (h : CacheIs w t b n most last es) (A : Option Addr) (m cap : Nat) (hm : m ≠ 256) :
    Calls Try.prog 19 #[.pointer (some ⟨t, 0, none⟩), .slice A m cap] w fun e w' => e = .returned (.tuple #[.int .i64 0, .bool false]) ∧ Below w.heap.size w w' := by
  by_cases hr : (es.length : Int) < most
  · have CR := Lib.hid (room_any h (k := 1) (by omega))
    have hrB : roomB most es 1 = true := by unfold roomB; rw [decide_eq_true_iff]; omega
    rw [hrB] at CR
    have hm1 : ((m : Int) == 256) = false := by rw [beq_eq_false_iff_ne]; omega
    clear h hrB hr hm
    go_enter Try.func19, Try.ntmps19
    go_wp2_with (go_at_call 26; refine (CR.out).mono ?_; rintro e w2 ⟨rfl, hb2⟩)
    exact bodyPost_ret (v := .tuple #[.int .i64 0, .bool false]) (by simp [results, Try.results19, go_sem]) rfl ⟨rfl, hb2⟩
  · exact put_full h A m cap hr

set_option maxHeartbeats 1600000 in
theorem put_nil (w : World) (A : Option Addr) (m cap : Nat) :
    Calls Try.prog 19 #[.pointer none, .slice A m cap] w fun e w' => e = .returned (.tuple #[.int .i64 0, .bool false]) ∧ Below w.heap.size w w' := by
  have CR := Lib.hid (room_nil w 1)
  go_enter Try.func19, Try.ntmps19
  go_wp2_with (go_at_call 26; refine (CR.out).mono ?_; rintro e w2 ⟨rfl, hb2⟩)
  exact bodyPost_ret (v := .tuple #[.int .i64 0, .bool false]) (by simp [results, Try.results19, go_sem]) rfl ⟨rfl, hb2⟩
end Go.Proofs.Ytcleabnbdfhmnaa
