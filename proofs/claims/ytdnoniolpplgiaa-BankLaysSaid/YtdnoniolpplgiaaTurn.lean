/- A device's inner deeds: settle, persist, event: contracts. -/
import Derived.Test.YtdnoniolpplgiaaDev
import Derived.WalkLawsBesides
namespace Go.Proofs.Ytdnoniolpplgiaa
open Go.RowKit Go.Maps Go.Sort Go.Shelf

theorem below_drewN {B : Nat} {a w : World} (h : Below B a w) (n : Nat) : Below B a (w.drewN n) := h.trans ⟨rfl, rfl, rfl, Nat.le_refl _, fun _ _ => rfl⟩
theorem among_del {T : List Int} {f : Int → Option Int} (h : Among T f) (a : Int) : Among T (delF f a) := by
  intro k hk
  unfold delF at hk
  by_cases e : k = a
  · simp [e] at hk
  · rw [if_neg e] at hk; exact h k hk
theorem among_set {T : List Int} {f : Int → Option Int} (h : Among T f) {a : Int} (ha : a ∈ T) (v : Int) : Among T (setF f a v) := by
  intro k hk
  unfold setF at hk
  by_cases e : k = a
  · subst e; exact ha
  · rw [if_neg e] at hk; exact h k hk

section
variable {w w' : World} {t m c y : Nat} {T : List Int} {d : Dv}
theorem DevIs.grown (h : DevIs w t m c y T d) {b : Nat} (hg : w.grownBy w' (some b)) (hb : b ∉ [t, m, c, y]) : DevIs w' t m c y T d :=
  h.same hg.size (fun i hi => hg.block i (h.lt i hi) (by simp; rintro rfl; exact hb hi))
theorem blk_ne {i b : Nat} (h : i ≠ b) : some i ≠ some b := by simpa using h
theorem DevIs.turnC (h : DevIs w t m c y T d) (hg : w.grownBy w' (some c)) {f : Int → Option Int} (hm : MapF w' c f) (ha : Among T f) : DevIs w' t m c y T { d with cache := f } := by
  obtain ⟨n1, n2, n3, n4, n5, n6⟩ := h.ne
  have ht := hg.block t h.tl (blk_ne n2)
  have e : ∀ o, w'.cell? ⟨t, o, none⟩ = w.cell? ⟨t, o, none⟩ := fun o => World.cell?_of_block ht
  exact ⟨(e 0).trans h.c0, (e 1).trans h.c1, (e 2).trans h.c2, (e 3).trans h.c3, (e 4).trans h.c4, (e 5).trans h.c5, (e 6).trans h.c6, fun o => (World.frozen?_of_block (a := ⟨t, o, none⟩) ht).trans (h.fr o), Nat.lt_of_lt_of_le h.tl hg.size, h.ne,
    h.mm.kept hg (blk_ne n4), hm, h.my.kept hg (blk_ne (Ne.symm n6)), h.am, ha, h.ay, h.tf, h.nb, h.ab, h.eb⟩
theorem DevIs.turnM (h : DevIs w t m c y T d) (hg : w.grownBy w' (some m)) {f : Int → Option Int} (hm : MapF w' m f) (ha : Among T f) : DevIs w' t m c y T { d with media := f } := by
  obtain ⟨n1, n2, n3, n4, n5, n6⟩ := h.ne
  have ht := hg.block t h.tl (blk_ne n1)
  have e : ∀ o, w'.cell? ⟨t, o, none⟩ = w.cell? ⟨t, o, none⟩ := fun o => World.cell?_of_block ht
  exact ⟨(e 0).trans h.c0, (e 1).trans h.c1, (e 2).trans h.c2, (e 3).trans h.c3, (e 4).trans h.c4, (e 5).trans h.c5, (e 6).trans h.c6, fun o => (World.frozen?_of_block (a := ⟨t, o, none⟩) ht).trans (h.fr o), Nat.lt_of_lt_of_le h.tl hg.size, h.ne,
    hm, h.mc.kept hg (blk_ne (Ne.symm n4)), h.my.kept hg (blk_ne (Ne.symm n5)), ha, h.ac, h.ay, h.tf, h.nb, h.ab, h.eb⟩
theorem DevIs.turnY (h : DevIs w t m c y T d) (hg : w.grownBy w' (some y)) {f : Int → Option Int} (hm : MapF w' y f) (ha : Among T f) : DevIs w' t m c y T { d with way := f } := by
  obtain ⟨n1, n2, n3, n4, n5, n6⟩ := h.ne
  have ht := hg.block t h.tl (blk_ne n3)
  have e : ∀ o, w'.cell? ⟨t, o, none⟩ = w.cell? ⟨t, o, none⟩ := fun o => World.cell?_of_block ht
  exact ⟨(e 0).trans h.c0, (e 1).trans h.c1, (e 2).trans h.c2, (e 3).trans h.c3, (e 4).trans h.c4, (e 5).trans h.c5, (e 6).trans h.c6, fun o => (World.frozen?_of_block (a := ⟨t, o, none⟩) ht).trans (h.fr o), Nat.lt_of_lt_of_le h.tl hg.size, h.ne,
    h.mm.kept hg (blk_ne n5), h.mc.kept hg (blk_ne n6), hm, h.am, h.ac, ha, h.tf, h.nb, h.ab, h.eb⟩
end

def Dv.settle (d : Dv) (i : Int) : Dv := if d.way i = none ∧ d.holds i = d.stays i then { d with cache := delF d.cache i } else d
theorem settle_yes {d : Dv} {i : Int} (h1 : d.way i = none) (h2 : d.holds i = d.stays i) : d.settle i = { d with cache := delF d.cache i } := if_pos ⟨h1, h2⟩
theorem settle_no {d : Dv} {i : Int} (h : ¬ (d.way i = none ∧ d.holds i = d.stays i)) : d.settle i = d := if_neg h

/-- What a deed leaves. -/
def Left (t m c y : Nat) (T : List Int) (d : Dv) (w : World) (e : Ending) (w' : World) : Prop := e = .returned (.tuple #[]) ∧ DevIs w' t m c y T d ∧ Kept [t, m, c, y] w w'

section
variable {w : World} {t m c y : Nat} {T : List Int} {d : Dv}
set_option maxRecDepth 100000 in
set_option maxHeartbeats 4000000 in
theorem settle_any (h : DevIs w t m c y T d) {i : Int} (hi : W64 i) : Calls Try.prog 57 #[.pointer (some ⟨t, 0, none⟩), .int .i64 i] w (Left t m c y T (d.settle i) w) := by
  have H := Lib.hid h
  have HI := Lib.hid hi
  have hc1 := h.c1
  have hc2 := h.c2
  have hc3 := h.c3
  have LY := (h.my.look hi).2
  have LM := fun n : Nat => ((h.mm.below (below_drewN (Below.refl w.heap.size w) n)).look hi).1
  clear h hi
  cases hy : d.way i with
  | some v =>
    rw [settle_no (by rw [hy]; simp)]
    rw [hy] at LY
    clear hy LM
    go_enter Try.func57, Try.ntmps57
    go_upto_region 1 with fail
    go_quiet (fail)
    go_wp2
    go_end0
    exact ⟨rfl, H.out.below (below_drewN (Below.refl _ _) _), Kept.of_below (below_drewN (Below.refl _ _) _)⟩
  | none =>
    rw [hy] at LY
    have HY := Lib.hid hy
    clear hy
    by_cases he : d.holds i = d.stays i
    · rw [settle_yes HY.out he]
      have heb : (d.holds i == d.stays i) = true := by simp [he]
      have heb : (d.holds i == (d.media i).getD 0) = true := heb
      clear he
      go_enter Try.func57, Try.ntmps57
      go_upto_region 1 with fail
      go_quiet ((go_at_call 63; exact Calls.quiet_of_same (holds_any (H.out.below (below_drewN (Below.refl _ _) _)) HI.out)))
      go_wp2_with (refine wpList_delF rfl _ _ rfl c d.cache i rfl rfl ((H.out.below (below_drewN (Below.refl _ _) _)).mc) HI.out ?_; intro w2 hm2 ht2)
      go_end0
      have hb := below_drewN (Below.refl w.heap.size w)
      exact ⟨rfl, (H.out.below (hb _)).turnC ht2.grown hm2 (among_del H.out.ac i), (Kept.of_below (hb _)).trans (Kept.of_grown ht2.grown (by simp))⟩
    · rw [settle_no (by rintro ⟨_, h2⟩; exact he h2)]
      have heb : (d.holds i == d.stays i) = false := by simp [he]
      have heb : (d.holds i == (d.media i).getD 0) = false := heb
      clear he
      go_enter Try.func57, Try.ntmps57
      go_upto_region 1 with fail
      go_quiet ((go_at_call 63; exact Calls.quiet_of_same (holds_any (H.out.below (below_drewN (Below.refl _ _) _)) HI.out)))
      go_wp2
      go_end0
      exact ⟨rfl, H.out.below (below_drewN (Below.refl _ _) _), Kept.of_below (below_drewN (Below.refl _ _) _)⟩

def Dv.persist (d : Dv) (i v : Int) : Dv := ({ d with way := delF d.way i, media := if v = 0 then delF d.media i else setF d.media i v } : Dv).settle i
theorem DevIs.keptTurn {w w2 : World} {S : List Nat} {b : Nat} (hk : Kept S w w2) {w3 : World} (h : w2.mapTurned w3 b) (hb : b ∈ S) : Kept S w w3 := hk.trans (Kept.of_grown h.grown hb)

set_option maxRecDepth 100000 in
set_option maxHeartbeats 4000000 in
theorem persist_any (h : DevIs w t m c y T d) {i : Int} (hi : W64 i) (hT : i ∈ T) (v : Int) : Calls Try.prog 55 #[.pointer (some ⟨t, 0, none⟩), .int .i64 i, .int .u64 v] w (Left t m c y T (d.persist i v) w) := by
  have H := Lib.hid h
  have HI := Lib.hid hi
  have hc1 := h.c1
  have hc3 := h.c3
  have hw64 := h.tf
  unfold Dv.persist
  clear h hi
  by_cases hv : v = 0
  · subst hv
    rw [if_pos rfl]
    go_enter Try.func55, Try.ntmps55
    go_upto_if 12 with (refine wpList_delF rfl _ _ rfl y d.way i rfl rfl (H.out.my) HI.out ?_; intro w2 hm2 ht2; have HT2 := Lib.hid (H.out.turnY ht2.grown hm2 (among_del H.out.ay i)); have HK2 := Lib.hid (Kept.of_grown (S := [t, m, c, y]) ht2.grown (by simp)); clear hm2 ht2)
    clear hc1 hc3
    have hc1 := HT2.out.c1
    have hc3 := HT2.out.c3
    go_wp2_with (first
      | (refine wpList_delF rfl _ _ rfl m d.media i rfl rfl (HT2.out.mm) HI.out ?_; intro w3 hm3 ht3; have HT3 := Lib.hid (HT2.out.turnM ht3.grown hm3 (among_del H.out.am i)); have HK3 := Lib.hid (DevIs.keptTurn HK2.out ht3 (by simp)); clear hm3 ht3)
      | (go_at_call 57; refine (settle_any HT3.out HI.out).mono ?_; rintro e w4 ⟨rfl, hD4, hk4⟩; have HD4 := Lib.hid hD4; have HK4 := Lib.hid (HK3.out.trans hk4); clear hD4 hk4))
    go_end0
    exact ⟨rfl, HD4.out, HK4.out⟩
  · rw [if_neg hv]
    have hvb : (v == 0) = false := by simp [hv]
    go_enter Try.func55, Try.ntmps55
    go_upto_if 12 with (refine wpList_delF rfl _ _ rfl y d.way i rfl rfl (H.out.my) HI.out ?_; intro w2 hm2 ht2; have HT2 := Lib.hid (H.out.turnY ht2.grown hm2 (among_del H.out.ay i)); have HK2 := Lib.hid (Kept.of_grown (S := [t, m, c, y]) ht2.grown (by simp)); clear hm2 ht2)
    clear hc1 hc3
    have hc1 := HT2.out.c1
    have hc3 := HT2.out.c3
    obtain ⟨w3, hrun3, hm3, ht3⟩ := run_putF HT2.out.mm HT2.out.am hw64 HI.out v
    have HT3 := Lib.hid (HT2.out.turnM ht3.grown hm3 (among_set H.out.am hT v))
    have HK3 := Lib.hid (DevIs.keptTurn HK2.out ht3 (by simp))
    clear hm3 ht3
    go_wp2_with (go_at_call 57; refine (settle_any HT3.out HI.out).mono ?_; rintro e w4 ⟨rfl, hD4, hk4⟩; have HD4 := Lib.hid hD4; have HK4 := Lib.hid (HK3.out.trans hk4); clear hD4 hk4)
    go_end0
    exact ⟨rfl, HD4.out, HK4.out⟩

/-- The device's own cells are written. -/
theorem DevIs.set4 (h : DevIs w t m c y T d) {n : Int} (hn : 0 ≤ n ∧ n < 9223372036854775808) : DevIs (w.setCell ⟨t, 4, none⟩ (.int .i64 n)) t m c y T { d with armed := n } := by
  have hg := Lib.grownBy_setCell w t 4 (.int .i64 n)
  obtain ⟨n1, n2, n3, n4, n5, n6⟩ := h.ne
  have o : ∀ k, k ≠ 4 → (w.setCell ⟨t, 4, none⟩ (.int .i64 n)).cell? ⟨t, k, none⟩ = w.cell? ⟨t, k, none⟩ := fun k hk => World.cell?_setCell_other _ _ _ _ (by intro e; cases e; exact hk rfl)
  exact ⟨(o 0 (by omega)).trans h.c0, (o 1 (by omega)).trans h.c1, (o 2 (by omega)).trans h.c2, (o 3 (by omega)).trans h.c3, World.cell?_setCell_same _ _ _ h.c4, (o 5 (by omega)).trans h.c5, (o 6 (by omega)).trans h.c6, fun k => by rw [World.frozen?_setCell]; exact h.fr k, Nat.lt_of_lt_of_le h.tl hg.size, h.ne,
    h.mm.kept hg (blk_ne (Ne.symm n1)), h.mc.kept hg (blk_ne (Ne.symm n2)), h.my.kept hg (blk_ne (Ne.symm n3)), h.am, h.ac, h.ay, h.tf, h.nb, hn, h.eb⟩
theorem DevIs.set5 (h : DevIs w t m c y T d) (b : Bool) : DevIs (w.setCell ⟨t, 5, none⟩ (.bool b)) t m c y T { d with dead := b } := by
  have hg := Lib.grownBy_setCell w t 5 (.bool b)
  obtain ⟨n1, n2, n3, n4, n5, n6⟩ := h.ne
  have o : ∀ k, k ≠ 5 → (w.setCell ⟨t, 5, none⟩ (.bool b)).cell? ⟨t, k, none⟩ = w.cell? ⟨t, k, none⟩ := fun k hk => World.cell?_setCell_other _ _ _ _ (by intro e; cases e; exact hk rfl)
  exact ⟨(o 0 (by omega)).trans h.c0, (o 1 (by omega)).trans h.c1, (o 2 (by omega)).trans h.c2, (o 3 (by omega)).trans h.c3, (o 4 (by omega)).trans h.c4, World.cell?_setCell_same _ _ _ h.c5, (o 6 (by omega)).trans h.c6, fun k => by rw [World.frozen?_setCell]; exact h.fr k, Nat.lt_of_lt_of_le h.tl hg.size, h.ne,
    h.mm.kept hg (blk_ne (Ne.symm n1)), h.mc.kept hg (blk_ne (Ne.symm n2)), h.my.kept hg (blk_ne (Ne.symm n3)), h.am, h.ac, h.ay, h.tf, h.nb, h.ab, h.eb⟩
theorem DevIs.set6 (h : DevIs w t m c y T d) {n : Int} (hn : 0 ≤ n ∧ n < 1000000000) : DevIs (w.setCell ⟨t, 6, none⟩ (.int .i64 n)) t m c y T { d with events := n } := by
  have hg := Lib.grownBy_setCell w t 6 (.int .i64 n)
  obtain ⟨n1, n2, n3, n4, n5, n6⟩ := h.ne
  have o : ∀ k, k ≠ 6 → (w.setCell ⟨t, 6, none⟩ (.int .i64 n)).cell? ⟨t, k, none⟩ = w.cell? ⟨t, k, none⟩ := fun k hk => World.cell?_setCell_other _ _ _ _ (by intro e; cases e; exact hk rfl)
  exact ⟨(o 0 (by omega)).trans h.c0, (o 1 (by omega)).trans h.c1, (o 2 (by omega)).trans h.c2, (o 3 (by omega)).trans h.c3, (o 4 (by omega)).trans h.c4, (o 5 (by omega)).trans h.c5, World.cell?_setCell_same _ _ _ h.c6, fun k => by rw [World.frozen?_setCell]; exact h.fr k, Nat.lt_of_lt_of_le h.tl hg.size, h.ne,
    h.mm.kept hg (blk_ne (Ne.symm n1)), h.mc.kept hg (blk_ne (Ne.symm n2)), h.my.kept hg (blk_ne (Ne.symm n3)), h.am, h.ac, h.ay, h.tf, h.nb, h.ab, hn⟩

def Dv.tick (d : Dv) : Dv := { d with armed := if 0 < d.armed then d.armed - 1 else d.armed, events := d.events + 1 }
def Dv.cut (d : Dv) : Dv := { d with armed := 0, dead := true }

set_option maxHeartbeats 4000000 in
theorem event_go (h : DevIs w t m c y T d) (ha : d.armed ≠ 1) (he : d.events < 900000000) : Calls Try.prog 80 #[.pointer (some ⟨t, 0, none⟩)] w (Left t m c y T d.tick w) := by
  have hc4 := h.c4
  have hc6 := h.c6
  have hfr := h.fr
  have hab := h.ab
  have heb := h.eb
  have htk : 0 < d.armed → d.tick = { d with armed := d.armed - 1, events := d.events + 1 } := fun h0 => by unfold Dv.tick; rw [if_pos h0]
  have htk2 : ¬ 0 < d.armed → d.tick = { d with events := d.events + 1 } := fun h0 => by unfold Dv.tick; rw [if_neg h0]
  have HTK := Lib.hid htk
  have HTK2 := Lib.hid htk2
  have H4 := Lib.hid (fun hn => h.set4 (n := d.armed - 1) hn)
  have H6 := Lib.hid (h.set6 (n := d.events + 1) (by omega))
  have H46 := Lib.hid (fun hn => (h.set4 (n := d.armed - 1) hn).set6 (n := d.events + 1) (by omega))
  clear h htk htk2
  have hk : ∀ (o : Nat) (v : Value), Kept [t, m, c, y] w (w.setCell ⟨t, o, none⟩ v) := fun o v => Kept.setCell (by simp)
  have hk2 : ∀ (o o2 : Nat) (v v2 : Value), Kept [t, m, c, y] w ((w.setCell ⟨t, o, none⟩ v).setCell ⟨t, o2, none⟩ v2) := fun o o2 v v2 => (Kept.setCell (by simp)).trans (Kept.setCell (by simp))
  have HK := Lib.hid hk
  have HK2 := Lib.hid hk2
  clear hk hk2
  by_cases h0 : 0 < d.armed
  · rw [HTK.out h0]
    have hs := H46.out (by omega)
    have HS := Lib.hid hs
    clear hs H46 H4 H6 HTK HTK2
    have he1 : (d.armed - 1 == 0) = false := by rw [beq_eq_false_iff_ne]; omega
    generalize d.armed = a at *
    generalize d.events = ev at *
    go_enter Try.func80, Try.ntmps80
    go_wp2
    go_end0
    exact ⟨rfl, HS.out, HK2.out _ _ _ _⟩
  · rw [HTK2.out h0]
    clear H46 H4 HTK HTK2
    generalize d.armed = a at *
    generalize d.events = ev at *
    go_enter Try.func80, Try.ntmps80
    go_wp2
    go_end0
    exact ⟨rfl, H6.out, HK.out _ _⟩

set_option maxHeartbeats 4000000 in
theorem event_cut (h : DevIs w t m c y T d) (ha : d.armed = 1) : Calls Try.prog 80 #[.pointer (some ⟨t, 0, none⟩)] w fun e w' => e = .panicked [{ v := .iface 108 (.agg #[]), recovered := false }] ∧ DevIs w' t m c y T d.cut ∧ Kept [t, m, c, y] w w' := by
  have hc4 := h.c4
  have hc5 := h.c5
  have hfr := h.fr
  have HS := Lib.hid ((h.set4 (n := 0) (by omega)).set5 true)
  have hk2 : ∀ (o o2 : Nat) (v v2 : Value), Kept [t, m, c, y] w ((w.setCell ⟨t, o, none⟩ v).setCell ⟨t, o2, none⟩ v2) := fun o o2 v v2 => (Kept.setCell (by simp)).trans (Kept.setCell (by simp))
  have HK2 := Lib.hid hk2
  rw [ha] at hc4
  unfold Dv.cut
  clear h ha hk2
  go_enter Try.func80, Try.ntmps80
  go_wp2
  exact ⟨rfl, rfl, HS.out, HK2.out _ _ _ _⟩
end
end Go.Proofs.Ytdnoniolpplgiaa
