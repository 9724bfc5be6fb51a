/- The law PmemStays, walked. -/
import Derived.Test.YtdnoniolpplgiaaRel2
namespace Go.Proofs.Ytdnoniolpplgiaa
open Go.RowKit Go.Maps Go.Sort Go.Shelf

structure Alive (d : Dv) : Prop where
  dead : d.dead = false
  armed : d.armed = 0
  n : d.n = 512
theorem Alive.alike {d e : Dv} (h : Alive d) (k : Alike4 d e) : Alive e := ⟨k.dead.trans h.dead, k.armed.trans h.armed, k.n.trans h.n⟩
theorem Alive.tick {d : Dv} (h : Alive d) : Alive d.tick := ⟨h.dead, by show (if 0 < d.armed then _ else d.armed) = 0; rw [h.armed]; rfl, h.n⟩
theorem Alive.store {d : Dv} (h : Alive d) (i v : Int) : Alive (d.store i v).2 := by
  unfold Dv.store
  split
  · exact h
  · rw [if_neg (by rw [h.armed]; omega)]; exact h.tick.alike (put_alike _ _ _)
theorem Alive.flush {d : Dv} (h : Alive d) (i : Int) : Alive (d.flush i).2 := by
  unfold Dv.flush
  split
  · exact h
  · rw [if_neg (by rw [h.armed]; omega)]; exact h.tick.alike (sends_alike _ _)
theorem Alive.fence {d : Dv} (h : Alive d) (ks : List Int) : Alive (d.fenceR ks).2 := by
  unfold Dv.fenceR
  rw [h.dead, if_neg (by simp), if_neg (by rw [h.armed]; omega)]; exact h.tick.alike (fences_alike _ _)
theorem Alive.evict {d : Dv} (h : Alive d) (i : Int) : Alive (d.evict i).2 := by
  unfold Dv.evict
  split
  · exact h
  · exact h.alike (keeps_alike _ _)
theorem Alive.doD {d : Dv} (h : Alive d) {k : De} (hk : k.k < 4) {r : Int × Dv} (hr : DoD d k r) : Alive r.2 := by
  unfold DoD at hr
  split at hr
  · rw [hr]; exact h.flush _
  · split at hr
    · obtain ⟨ks, _, _, rfl⟩ := hr; exact h.fence _
    · split at hr
      · rw [hr]; exact h.evict _
      · rw [if_neg (by omega), if_neg (by omega)] at hr
        rw [hr]; exact h.store _ _

/-- A word that is clean, and stays as this. -/
structure Clean (d : Dv) (i v : Int) : Prop where
  cache : d.cache i = none
  way : d.way i = none
  stays : d.stays i = v
theorem Clean.at_ {d e : Dv} {i v : Int} (h : Clean d i v) (k : e.at_ i = d.at_ i) : Clean e i v :=
  ⟨(congrArg Vw.cache k).trans h.cache, (congrArg Vw.way k).trans h.way, (congrArg Vw.stays k).trans h.stays⟩
theorem Clean.doD {d : Dv} (ha : Alive d) {i v : Int} (h : Clean d i v) {k : De} (hk : k.k < 4) (hi : ¬ (k.k ≤ 0 ∧ k.i = i)) {r : Int × Dv} (hr : DoD d k r) : Clean r.2 i v := by
  unfold DoD at hr
  split at hr
  · rw [hr]
    unfold Dv.flush
    split
    · exact h
    · rw [if_neg (by rw [ha.armed]; omega)]
      refine h.at_ ?_
      rw [sends_at _ _ _ (lineN_ris d k.i 8), if_neg (by rw [lineN_iff, h.cache]; simp)]; rfl
  · split at hr
    · obtain ⟨ks, hks, hm, rfl⟩ := hr
      unfold Dv.fenceR
      rw [ha.dead, if_neg (by simp), if_neg (by rw [ha.armed]; omega)]
      refine h.at_ ?_
      rw [fences_at _ _ _ hks, if_neg (by rw [hm, h.way]; simp)]; rfl
    · split at hr
      · rw [hr]
        unfold Dv.evict
        split
        · exact h
        · refine h.at_ ?_
          rw [keeps_at _ _ _ (lineN_ris d k.i 8), if_neg (by rw [lineN_iff, h.cache]; simp)]
      · rw [if_neg (by omega), if_neg (by omega)] at hr
        rw [hr]
        unfold Dv.store
        split
        · exact h
        · rw [if_neg (by rw [ha.armed]; omega)]
          refine h.at_ ?_
          rw [put_far _ _ (by intro e; exact hi ⟨by omega, e.symm⟩)]; rfl
theorem crashN_far (d : Dv) (ks : List Int) (keep : List Bool) {i : Int} (hi : i ∉ ks) : ∀ j, (d.crashN ks keep j).at_ i = d.at_ i := by
  intro j
  induction j with
  | zero => rfl
  | succ j ih =>
    cases hx : ks[j]? with
    | none => show (Dv.at_ (match ks[j]? with | none => _ | some x => _) i) = _; rw [hx]; exact ih
    | some q =>
      by_cases hk : keep[j]? = some true
      · rw [crashN_yes hx hk, persist_far _ _ (fun e => hi (by rw [e]; exact List.mem_of_getElem? hx))]; exact ih
      · rw [crashN_no hx hk]; exact ih

theorem sff {d : Dv} (h : Alive d) {i : Int} (v : Int) (h0 : 0 ≤ i) (h1 : i < 512) {ks : List Int} (hks : Ris ks) (hm : ∀ q, q ∈ ks ↔ (((d.store i v).2.flush (i / 8)).2.way q).isSome = true) :
    (d.store i v).1 = 0 ∧ ((d.store i v).2.flush (i / 8)).1 = 0 ∧ (((d.store i v).2.flush (i / 8)).2.fenceR ks).1 = 0 ∧ Clean (((d.store i v).2.flush (i / 8)).2.fenceR ks).2 i v := by
  have hs : d.store i v = (0, d.tick.put i v) := store_go v (by rw [h.dead, h.n]; exact fault_in h0 h1) (by rw [h.armed]; omega)
  have ha1 : Alive (d.tick.put i v) := h.tick.alike (put_alike _ _ _)
  rw [hs] at hm ⊢
  have hl : (d.tick.put i v).lines = 64 := by unfold Dv.lines; rw [ha1.n]; rfl
  have hf : (d.tick.put i v).flush (i / 8) = (0, (d.tick.put i v).tick.sends (lineN (d.tick.put i v) (i / 8) 8)) := flush_go (by rw [ha1.dead, hl]; exact fault_in (by omega) (by omega)) (by rw [ha1.armed]; omega)
  have ha2 : Alive ((d.tick.put i v).tick.sends (lineN (d.tick.put i v) (i / 8) 8)) := ha1.tick.alike (sends_alike _ _)
  simp only [hf] at hm ⊢
  refine ⟨trivial, trivial, ?_, ?_⟩
  · unfold Dv.fenceR
    rw [ha2.dead, if_neg (by simp), if_neg (by rw [ha2.armed]; omega)]
  · unfold Dv.fenceR
    rw [ha2.dead, if_neg (by simp), if_neg (by rw [ha2.armed]; omega)]
    have e1 : (d.tick.put i v).at_ i = (d.at_ i).put v := put_same d.tick i v
    have e2 := sends_at (lineN (d.tick.put i v) (i / 8) 8) (d.tick.put i v).tick i (lineN_ris _ _ _)
    have e3 := fences_at ks ((d.tick.put i v).tick.sends (lineN (d.tick.put i v) (i / 8) 8)).tick i hks
    have hc1 : ((d.tick.put i v).at_ i).cache = (d.tick.put i v).cache i := rfl
    have et : (d.tick.put i v).tick.at_ i = (d.tick.put i v).at_ i := rfl
    have et2 : ((d.tick.put i v).tick.sends (lineN (d.tick.put i v) (i / 8) 8)).tick.at_ i = ((d.tick.put i v).tick.sends (lineN (d.tick.put i v) (i / 8) 8)).at_ i := rfl
    have hw2 : ((d.tick.put i v).tick.sends (lineN (d.tick.put i v) (i / 8) 8)).tick.way i = (((d.tick.put i v).tick.sends (lineN (d.tick.put i v) (i / 8) 8)).at_ i).way := rfl
    have hm2 := hm i
    rw [show (((d.tick.put i v).tick.sends (lineN (d.tick.put i v) (i / 8) 8)).way i) = (((d.tick.put i v).tick.sends (lineN (d.tick.put i v) (i / 8) 8)).at_ i).way from rfl] at hm2
    rw [et2, hw2] at e3
    rw [et, e1] at e2
    rw [e1] at hc1
    have hin : i ∈ lineN (d.tick.put i v) (i / 8) 8 ↔ ((d.at_ i).put v).cache.isSome = true := by
      rw [lineN_iff, ← hc1]; simp
    have key : ∀ V : Vw, V = (((d.tick.put i v).tick.sends (lineN (d.tick.put i v) (i / 8) 8)).tick.fences ks).at_ i → V.cache = none ∧ V.way = none ∧ V.stays = v → Clean (((d.tick.put i v).tick.sends (lineN (d.tick.put i v) (i / 8) 8)).tick.fences ks) i v := by
      rintro V rfl ⟨a, b, c⟩; exact ⟨a, b, c⟩
    refine key _ rfl ?_
    rw [e3]
    generalize ((d.tick.put i v).tick.sends (lineN (d.tick.put i v) (i / 8) 8)).at_ i = V2 at *
    generalize d.at_ i = V0 at *
    by_cases hc : V0.way = none ∧ v = V0.stays
    · have hp : V0.put v = { V0 with cache := none } := by
        unfold Vw.put Vw.settle
        rw [if_pos ⟨hc.1, hc.2⟩]
      rw [hp] at e2 hin
      rw [if_neg (by rw [hin]; simp)] at e2
      rw [e2] at hm2 ⊢
      rw [if_neg (by rw [hm2]; simp [hc.1])]
      exact ⟨rfl, hc.1, hc.2.symm⟩
    · have hp : V0.put v = { V0 with cache := some v } := by
        unfold Vw.put Vw.settle
        rw [if_neg (fun h => hc ⟨h.1, h.2⟩)]
      rw [hp] at e2 hin
      rw [if_pos (by rw [hin]; simp)] at e2
      rw [e2] at hm2 ⊢
      rw [if_pos (by rw [hm2]; simp [Vw.send])]
      have hst : (({ V0 with way := none, media := if v = 0 then none else some v, cache := some v } : Vw)).stays = v := by
        unfold Vw.stays
        by_cases hv : v = 0 <;> simp [hv]
      unfold Vw.send Vw.persist Vw.settle
      dsimp only [Option.getD_some]
      rw [if_pos ⟨rfl, by rw [hst]; rfl⟩]
      exact ⟨rfl, rfl, hst⟩
end Go.Proofs.Ytdnoniolpplgiaa
