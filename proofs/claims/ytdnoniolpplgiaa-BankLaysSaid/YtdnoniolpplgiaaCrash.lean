/- A device's Crash and Copy: contracts. -/
import Derived.Test.YtdnoniolpplgiaaFence
namespace Go.Proofs.Ytdnoniolpplgiaa
open Go.RowKit Go.Maps Go.Sort Go.Shelf

/-- A slice of bools. -/
def Bools (w : World) (A : Option Addr) (n : Nat) (bs : List Bool) : Prop :=
  bs.length = n ∧ (bs = [] ∨ ∃ b off, A = some ⟨b, off, none⟩ ∧ b < w.heap.size ∧ ∀ i, (h : i < bs.length) → w.cell? ⟨b, off + i, none⟩ = some (.bool bs[i]))
theorem Bools.below {w w' : World} {A : Option Addr} {n : Nat} {bs : List Bool} (h : Bools w A n bs) (hb : Below w.heap.size w w') : Bools w' A n bs :=
  ⟨h.1, h.2.imp id (fun ⟨b, off, e, hl, hc⟩ => ⟨b, off, e, Nat.lt_of_lt_of_le hl hb.size, fun i hi => (hb.cell hl).trans (hc i hi)⟩)⟩
/-- .. that is apart from these blocks, if there is any. -/
theorem Bools.kept {S : List Nat} {w w' : World} {A : Option Addr} {n : Nat} {bs : List Bool} (h : Bools w A n bs) (hk : Kept S w w') (hA : bs ≠ [] → ∀ a, A = some a → a.block ∉ S) : Bools w' A n bs := by
  refine ⟨h.1, ?_⟩
  rcases h.2 with h2 | ⟨b, off, rfl, hl, hc⟩
  · exact .inl h2
  · by_cases he : bs = []
    · exact .inl he
    · exact .inr ⟨b, off, rfl, Nat.lt_of_lt_of_le hl hk.size, fun i hi => (hk.cell (a := ⟨b, off + i, none⟩) hl (hA he ⟨b, off, none⟩ rfl)).trans (hc i hi)⟩
theorem Bools.at {w : World} {A : Option Addr} {n : Nat} {xs : List Bool} (h : Bools w A n xs) {i : Nat} (hi : i < n) :
    ∃ b off, A = some ⟨b, off, none⟩ ∧ b < w.heap.size ∧ ∃ x, xs[i]? = some x ∧ w.cell? ⟨b, off + i, none⟩ = some (.bool x) := by
  have hx : i < xs.length := by rw [h.1]; exact hi
  rcases h.2 with h2 | ⟨b, off, rfl, hl, hc⟩
  · subst h2; simp at hx
  · exact ⟨b, off, rfl, hl, xs[i], List.getElem?_eq_getElem hx, hc i hx⟩

/-- What is kept of the first of them. -/
def Dv.crashN (d : Dv) (ks : List Int) (keep : List Bool) : Nat → Dv
  | 0 => d
  | j + 1 => match ks[j]? with
    | none => d.crashN ks keep j
    | some x => if keep[j]?.getD false = true then (d.crashN ks keep j).persist x (((d.crashN ks keep j).cache x).getD 0) else d.crashN ks keep j
theorem crashN_yes {d : Dv} {ks : List Int} {keep : List Bool} {j : Nat} {x : Int} (h : ks[j]? = some x) (hk : keep[j]? = some true) : d.crashN ks keep (j + 1) = (d.crashN ks keep j).persist x (((d.crashN ks keep j).cache x).getD 0) := by
  show (match ks[j]? with | none => _ | some x => _) = _
  rw [h, hk]; rfl
theorem crashN_no {d : Dv} {ks : List Int} {keep : List Bool} {j : Nat} {x : Int} (h : ks[j]? = some x) (hk : keep[j]? ≠ some true) : d.crashN ks keep (j + 1) = d.crashN ks keep j := by
  show (match ks[j]? with | none => _ | some x => _) = _
  rw [h]
  refine if_neg ?_
  cases e : keep[j]? with
  | none => simp
  | some b => cases b with
    | false => simp
    | true => exact absurd e hk
def Dv.crash (d : Dv) (ks : List Int) (keep : List Bool) : Dv := { d.crashN ks keep ks.length with cache := fun _ => none, way := fun _ => none, armed := 0, dead := false }

section
variable {w : World} {t m c y : Nat} {T : List Int} {d : Dv}
theorem crash_nil (w : World) (A : Option Addr) (n cap : Nat) : Calls Try.prog 20 #[.pointer none, .slice A n cap] w fun e w' => e = .returned (.tuple #[]) ∧ w' = w := by
  have CO := Lib.hid (ok_nil w)
  go_enter Try.func20, Try.ntmps20
  go_wp2_with (go_at_call 46; refine (CO.out).mono ?_; rintro e w' ⟨rfl, hw⟩; rw [hw]; clear hw w')
  refine bodyPost_ret (results_none rfl _ _ _) rfl ?_
  exact ⟨rfl, rfl⟩

theorem none_among (T : List Int) : Among T (fun _ => none) := fun k hk => by simp at hk
theorem DevIs.reset {w w' : World} (h : DevIs w t m c y T d) (hs : w.heap.size + 2 ≤ w'.heap.size) (hm : w'.heap[m]? = w.heap[m]?) (mc : MapF w' w.heap.size (fun _ => none)) (my : MapF w' (w.heap.size + 1) (fun _ => none))
    (c0 : w'.cell? ⟨t, 0, none⟩ = w.cell? ⟨t, 0, none⟩) (c1 : w'.cell? ⟨t, 1, none⟩ = w.cell? ⟨t, 1, none⟩) (c2 : w'.cell? ⟨t, 2, none⟩ = some (.map (some w.heap.size))) (c3 : w'.cell? ⟨t, 3, none⟩ = some (.map (some (w.heap.size + 1)))) (c4 : w'.cell? ⟨t, 4, none⟩ = some (.int .i64 0)) (c5 : w'.cell? ⟨t, 5, none⟩ = some (.bool false)) (c6 : w'.cell? ⟨t, 6, none⟩ = w.cell? ⟨t, 6, none⟩) (fr : ∀ o, w'.frozen? ⟨t, o, none⟩ = false) :
    DevIs w' t m w.heap.size (w.heap.size + 1) T { d with cache := fun _ => none, way := fun _ => none, armed := 0, dead := false } := by
  have htl := h.tl
  have hml := h.mm.lt
  exact ⟨c0.trans h.c0, c1.trans h.c1, c2, c3, c4, c5, c6.trans h.c6, fr, by omega, ⟨h.ne.1, by omega, by omega, by omega, by omega, by omega⟩, h.mm.block hm, mc, my, h.am, none_among T, none_among T, h.tf, h.nb, by simp only; omega, h.eb⟩

theorem reset_world (h : DevIs w t m c y T d) :
    DevIs ((((((w.setCell ⟨t, 2, none⟩ (.map (some w.heap.size))).setCell ⟨t, 3, none⟩ (.map (some (w.heap.size + 1)))).setCell ⟨t, 4, none⟩ (.int .i64 0)).setCell ⟨t, 5, none⟩ (.bool false)).alloc (.map #[] 0)).alloc (.map #[] 0)) t m w.heap.size (w.heap.size + 1) T { d with cache := fun _ => none, way := fun _ => none, armed := 0, dead := false } ∧
    Kept [t, m, c, y] w ((((((w.setCell ⟨t, 2, none⟩ (.map (some w.heap.size))).setCell ⟨t, 3, none⟩ (.map (some (w.heap.size + 1)))).setCell ⟨t, 4, none⟩ (.int .i64 0)).setCell ⟨t, 5, none⟩ (.bool false)).alloc (.map #[] 0)).alloc (.map #[] 0)) := by
  have hc0 := h.c0
  have hc1 := h.c1
  have hc2 := h.c2
  have hc3 := h.c3
  have hc4 := h.c4
  have hc5 := h.c5
  have hc6 := h.c6
  have hfr := h.fr
  have htl := h.tl
  have hml := h.mm.lt
  obtain ⟨W1, hW⟩ : ∃ W1, W1 = (((w.setCell ⟨t, 2, none⟩ (.map (some w.heap.size))).setCell ⟨t, 3, none⟩ (.map (some (w.heap.size + 1)))).setCell ⟨t, 4, none⟩ (.int .i64 0)).setCell ⟨t, 5, none⟩ (.bool false) := ⟨_, rfl⟩
  have hg : w.grownBy W1 (some t) := hW ▸ grown_trans (grown_trans (grown_trans (Lib.grownBy_setCell _ _ _ _) (Lib.grownBy_setCell _ _ _ _)) (Lib.grownBy_setCell _ _ _ _)) (Lib.grownBy_setCell _ _ _ _)
  have hsz : W1.heap.size = w.heap.size := by rw [hW]; simp
  have k0 : W1.cell? ⟨t, 0, none⟩ = w.cell? ⟨t, 0, none⟩ := by rw [hW]; go_simp
  have k1 : W1.cell? ⟨t, 1, none⟩ = w.cell? ⟨t, 1, none⟩ := by rw [hW]; go_simp
  have k2 : W1.cell? ⟨t, 2, none⟩ = some (.map (some w.heap.size)) := by rw [hW]; go_simp
  have k3 : W1.cell? ⟨t, 3, none⟩ = some (.map (some (w.heap.size + 1))) := by rw [hW]; go_simp
  have k4 : W1.cell? ⟨t, 4, none⟩ = some (.int .i64 0) := by rw [hW]; go_simp
  have k5 : W1.cell? ⟨t, 5, none⟩ = some (.bool false) := by rw [hW]; go_simp
  have k6 : W1.cell? ⟨t, 6, none⟩ = w.cell? ⟨t, 6, none⟩ := by rw [hW]; go_simp
  have kf : ∀ o, W1.frozen? ⟨t, o, none⟩ = false := fun o => by rw [hW]; go_simp
  rw [← hW]
  clear hW hc0 hc1 hc2 hc3 hc4 hc5 hc6 hfr
  have hb : Below W1.heap.size W1 ((W1.alloc (.map #[] 0)).alloc (.map #[] 0)) := ((Below.refl _ _).alloc (Nat.le_refl _) _).alloc (by simp) _
  have m1 := (MapF.made W1).below ((Below.refl _ _).alloc (Nat.le_refl _) (.map #[] 0))
  have m2 := MapF.made (W1.alloc (.map #[] 0))
  rw [show (W1.alloc (.map #[] 0)).heap.size = w.heap.size + 1 by simp [hsz]] at m2
  rw [hsz] at m1
  have htl1 : t < W1.heap.size := by omega
  have e : ∀ o, ((W1.alloc (.map #[] 0)).alloc (.map #[] 0)).cell? ⟨t, o, none⟩ = W1.cell? ⟨t, o, none⟩ := fun o => hb.cell (p := ⟨t, o, none⟩) htl1
  refine ⟨h.reset (by simp; omega) ((hb.block m (by omega)).trans (hg.block m hml (by simpa using Ne.symm h.ne.1))) m1 m2 ((e 0).trans k0) ((e 1).trans k1) ((e 2).trans k2) ((e 3).trans k3) ((e 4).trans k4) ((e 5).trans k5) ((e 6).trans k6) (fun o => (frozen_below hb (a := ⟨t, o, none⟩) htl1).trans (kf o)), (Kept.of_grown hg (by simp)).trans (Kept.of_below hb)⟩

set_option maxRecDepth 100000 in
set_option maxHeartbeats 4000000 in
theorem crash_any (h : DevIs w t m c y T d) (hT64 : ∀ i ∈ T, W64 i) {ks : List Int} (hr : Ris ks) (hm : ∀ k, k ∈ ks ↔ (d.cache k).isSome = true) {A : Option Addr} {n : Nat} {keep : List Bool} (cap : Nat) (hB : Bools w A n keep) (hA : keep ≠ [] → ∀ a, A = some a → a.block ∉ [t, m, c, y]) :
    Calls Try.prog 20 #[.pointer (some ⟨t, 0, none⟩), .slice A n cap] w fun e w' => ∃ c' y', e = .returned (.tuple #[]) ∧ DevIs w' t m c' y' T (d.crash ks keep) ∧ Kept [t, m, c, y] w w' ∧ w.heap.size ≤ c' ∧ w.heap.size ≤ y' := by
  obtain ⟨ks2, hr2, hm2, hle, CS0⟩ := dirtyD_any h
  obtain rfl : ks = ks2 := ris_ext hr hr2 (fun k => by rw [hm, hm2])
  have CS := Lib.hid CS0
  have CO := Lib.hid (ok_cell h.c1)
  have H := Lib.hid h
  have htf := h.tf
  have hlt := h.lt
  have HLT := Lib.hid hlt
  have HB := Lib.hid hB
  have HA := Lib.hid hA
  have HMM := Lib.hid hm
  have H64 := Lib.hid hT64
  have hmm := @run_makeMap Try.prog
  have hkl := hB.1

  clear h hlt CS0 hr2 hm2 hB hA hm hT64 hr
  go_enter Try.func20, Try.ntmps20
  go_wp2_with (first
    | (go_at_call 46; refine (CO.out).mono ?_; rintro e w' ⟨rfl, hw⟩; rw [hw]; clear hw w')
    | (go_at_call 25; refine (CS.out).mono ?_; rintro e w2 ⟨X, c', rfl, hI, hX, hb⟩; have HI := Lib.hid hI; have HX := Lib.hid hX; clear hI hX))
  go_loopw [12] (fun k wr => ∃ j : Nat, j ≤ ks.length ∧ k = .int .i64 j ∧ DevIs wr t m c y T (d.crashN ks keep j) ∧ Kept [t, m, c, y] w2 wr) (fun k _ => ks.length - (intOf k).toNat)
  case atStart => exact ⟨0, Nat.zero_le _, rfl, H.out.below hb, Kept.refl _ _⟩
  case round =>
    obtain ⟨j, hj, rfl, hD, hk⟩ := hrel
    have hbs := hb.size
    by_cases hlt : j < ks.length
    · obtain ⟨g, off, rfl, hgl, x, hx, c0⟩ := (HI.out.kept hk (fun a ha hm => by have := HX.out a ha; have := HLT.out _ hm; omega)).at hlt
      have hxT : x ∈ T := H.out.ac x ((HMM.out x).1 (List.mem_of_getElem? hx))
      have HW := Lib.hid (H64.out x hxT)
      have HT := Lib.hid hxT
      have LC := (hD.mc.look HW.out).1
      have hc2 := hD.c2
      have HDd := Lib.hid hD
      have HK := Lib.hid hk
      have HBr := Lib.hid ((HB.out.below hb).kept hk HA.out)
      have HXx := Lib.hid hx
      clear hD hxT hx
      by_cases hjn : j < n
      · obtain ⟨gb, offb, rfl, hgbl, v, hv, cb⟩ := HBr.out.at hjn
        cases v with
        | true =>
          have HS := Lib.hid (crashN_yes (d := d) HXx.out hv)
          clear hv
          go_wp2_with (go_at_call 55; refine (persist_any HDd.out HW.out HT.out _).mono ?_; rintro e w4 ⟨rfl, hD4, hk4⟩; have HD4 := Lib.hid hD4; have HK4 := Lib.hid (HK.out.trans hk4); clear hD4 hk4)
          go_roundw
          case rel => exact ⟨j + 1, by omega, by go_num, by rw [HS.out]; exact HD4.out, HK4.out⟩
          case measure => simp [intOf]; omega
        | false =>
          have HS := Lib.hid (crashN_no (d := d) HXx.out (show keep[j]? ≠ some true by rw [hv]; simp))
          clear hv
          go_wp2
          go_roundw
          case rel => exact ⟨j + 1, by omega, by go_num, by rw [HS.out]; exact HDd.out, HK.out⟩
          case measure => simp [intOf]; omega
      · have HS := Lib.hid (crashN_no (d := d) HXx.out (show keep[j]? ≠ some true by rw [List.getElem?_eq_none (by omega)]; simp))
        go_wp2
        go_roundw
        case rel => exact ⟨j + 1, by omega, by go_num, by rw [HS.out]; exact HDd.out, HK.out⟩
        case measure => simp [intOf]; omega
    · obtain rfl : j = ks.length := by omega
      have HD := Lib.hid hD
      have hc0 := hD.c0
      have hc1 := hD.c1
      have hc2 := hD.c2
      have hc3 := hD.c3
      have hc4 := hD.c4
      have hc5 := hD.c5
      have hc6 := hD.c6
      have hfr := hD.fr
      have htl := hD.tl
      clear hD
      go_wp2
      go_end0
      have hR := reset_world HD.out
      refine ⟨_, _, rfl, hR.1, (Kept.of_below hb).trans (hk.trans hR.2), by have := hk.size; omega, by have := hk.size; omega⟩
end
end Go.Proofs.Ytdnoniolpplgiaa
