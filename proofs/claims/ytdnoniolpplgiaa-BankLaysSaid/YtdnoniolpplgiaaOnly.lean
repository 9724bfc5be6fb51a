/- The law PmemOnly, plainly: a word is, goes and stays as something that was stored to it. -/
import Derived.Test.YtdnoniolpplgiaaRel2
namespace Go.Proofs.Ytdnoniolpplgiaa
open Go.RowKit Go.Maps Go.Sort Go.Shelf

structure VJ (V : Vw) (L : List Int) : Prop where
  stays : V.stays ∈ L
  cache : ∀ v, V.cache = some v → v ∈ L
  way : ∀ v, V.way = some v → v ∈ L
theorem VJ.cached {V : Vw} {L : List Int} (h : VJ V L) (h0 : (0 : Int) ∈ L) : V.cache.getD 0 ∈ L := by
  cases hc : V.cache with
  | none => exact h0
  | some v => exact h.cache v hc
theorem VJ.gone {V : Vw} {L : List Int} (h : VJ V L) (h0 : (0 : Int) ∈ L) : V.way.getD 0 ∈ L := by
  cases hc : V.way with
  | none => exact h0
  | some v => exact h.way v hc
theorem VJ.settle {V : Vw} {L : List Int} (h : VJ V L) : VJ V.settle L := by
  unfold Vw.settle
  split
  · exact ⟨h.stays, fun v hv => (by cases hv), h.way⟩
  · exact h
theorem VJ.put {V : Vw} {L : List Int} (h : VJ V L) {x : Int} (hx : x ∈ L) : VJ (V.put x) L := by
  unfold Vw.put
  exact VJ.settle ⟨h.stays, fun v hv => by cases hv; exact hx, h.way⟩
theorem VJ.persist {V : Vw} {L : List Int} (h : VJ V L) {x : Int} (hx : x ∈ L) : VJ (V.persist x) L := by
  unfold Vw.persist
  refine VJ.settle ⟨?_, h.cache, fun v hv => by cases hv⟩
  unfold Vw.stays
  by_cases h0 : x = 0
  · subst h0; simpa using hx
  · simpa [h0] using hx
theorem VJ.send {V : Vw} {L : List Int} (h : VJ V L) (h0 : (0 : Int) ∈ L) : VJ V.send L := by
  unfold Vw.send
  exact ⟨h.stays, h.cache, fun v hv => by cases hv; exact h.cached h0⟩
theorem VJ.more {V : Vw} {L : List Int} (h : VJ V L) (x : Int) : VJ V (L ++ [x]) :=
  ⟨List.mem_append_left _ h.stays, fun v hv => List.mem_append_left _ (h.cache v hv), fun v hv => List.mem_append_left _ (h.way v hv)⟩

structure Only (d : Dv) (i : Int) (L : List Int) : Prop where
  zero : (0 : Int) ∈ L
  at_ : VJ (d.at_ i) L
theorem Only.stays {d : Dv} {i : Int} {L : List Int} (h : Only d i L) : d.stays i ∈ L := h.at_.stays
theorem Only.of {d e : Dv} {i : Int} {L : List Int} (h : Only d i L) (k : e.at_ i = d.at_ i) : Only e i L := ⟨h.zero, by rw [k]; exact h.at_⟩
theorem Only.persist {d : Dv} {i : Int} {L : List Int} (h : Only d i L) {j x : Int} (hx : j = i → x ∈ L) : Only (d.persist j x) i L := by
  by_cases e : i = j
  · subst e; exact ⟨h.zero, by rw [persist_same]; exact h.at_.persist (hx rfl)⟩
  · exact h.of (persist_far d x e)
theorem Only.crashN {d : Dv} {i : Int} {L : List Int} (h : Only d i L) (ks : List Int) (keep : List Bool) : ∀ j, Only (d.crashN ks keep j) i L := by
  intro j
  induction j with
  | zero => exact h
  | succ j ih =>
    cases hx : ks[j]? with
    | none => show Only (match ks[j]? with | none => _ | some x => _) i L; rw [hx]; exact ih
    | some q =>
      by_cases hk : keep[j]? = some true
      · rw [crashN_yes hx hk]
        exact ih.persist (fun e => by subst e; exact ih.at_.cached ih.zero)
      · rw [crashN_no hx hk]; exact ih
theorem Only.crash {d : Dv} {i : Int} {L : List Int} (h : Only d i L) (ks : List Int) (keep : List Bool) : Only (d.crash ks keep) i L :=
  ⟨h.zero, (h.crashN ks keep ks.length).at_.stays, fun v hv => (by cases hv), fun v hv => (by cases hv)⟩
theorem Only.flush {d : Dv} {i : Int} {L : List Int} (h : Only d i L) (j : Int) : Only (d.flush j).2 i L := by
  unfold Dv.flush
  split
  · exact h
  · split
    · exact ⟨h.zero, h.at_⟩
    · refine ⟨h.zero, ?_⟩
      show VJ ((d.tick.sends (lineN d j 8)).at_ i) L
      rw [sends_at _ _ _ (lineN_ris _ _ _)]
      split
      · exact VJ.send (V := d.tick.at_ i) h.at_ h.zero
      · exact h.at_
theorem Only.fence {d : Dv} {i : Int} {L : List Int} (h : Only d i L) {ks : List Int} (hks : Ris ks) : Only (d.fenceR ks).2 i L := by
  unfold Dv.fenceR
  split
  · exact h
  · split
    · exact ⟨h.zero, h.at_⟩
    · refine ⟨h.zero, ?_⟩
      show VJ ((d.tick.fences ks).at_ i) L
      rw [fences_at _ _ _ hks]
      split
      · exact VJ.persist (V := d.tick.at_ i) h.at_ (VJ.gone (V := d.at_ i) h.at_ h.zero)
      · exact h.at_
theorem Only.evict {d : Dv} {i : Int} {L : List Int} (h : Only d i L) (j : Int) : Only (d.evict j).2 i L := by
  unfold Dv.evict
  split
  · exact h
  · refine ⟨h.zero, ?_⟩
    show VJ ((d.keeps (lineN d j 8)).at_ i) L
    rw [keeps_at _ _ _ (lineN_ris _ _ _)]
    split
    · exact VJ.persist (V := d.at_ i) h.at_ (VJ.cached (V := d.at_ i) h.at_ h.zero)
    · exact h.at_
theorem Only.store_far {d : Dv} {i : Int} {L : List Int} (h : Only d i L) {j v : Int} (hn : ¬ ((d.store j v).1 = 0 ∧ j = i)) : Only (d.store j v).2 i L := by
  unfold Dv.store at hn ⊢
  split
  · exact h
  · rename_i hf
    rw [if_neg hf] at hn
    split
    · exact ⟨h.zero, h.at_⟩
    · rename_i ha
      rw [if_neg ha] at hn
      exact ⟨h.zero, by rw [put_far _ _ (fun e => hn ⟨rfl, e.symm⟩)]; exact h.at_⟩
theorem Only.store_same {d : Dv} {i : Int} {L : List Int} (h : Only d i L) {v : Int} : Only (d.store i v).2 i (L ++ [v]) := by
  have h2 : Only d i (L ++ [v]) := ⟨List.mem_append_left _ h.zero, h.at_.more v⟩
  unfold Dv.store
  split
  · exact h2
  · split
    · exact ⟨h2.zero, h2.at_⟩
    · refine ⟨h2.zero, ?_⟩
      show VJ ((d.tick.put i v).at_ i) _
      rw [put_same]
      exact VJ.put (V := d.tick.at_ i) h2.at_ (by simp)
theorem Only.doD {d : Dv} {i : Int} {L : List Int} (h : Only d i L) {k : De} {r : Int × Dv} (hr : DoD d k r) (h0 : ¬ k.k ≤ 0) (h5 : ¬ 5 < k.k) : Only r.2 i L := by
  unfold DoD at hr
  split at hr
  · subst hr; exact h.flush _
  · split at hr
    · obtain ⟨ks, hks, _, rfl⟩ := hr; exact h.fence hks
    · split at hr
      · subst hr; exact h.evict _
      · split at hr
        · subst hr; exact ⟨h.zero, h.at_⟩
        · split at hr
          · obtain ⟨ks, _, _, rfl⟩ := hr; exact h.crash _ _
          · omega
theorem Only.new (n i : Int) : Only (Dv.new n) i [0] := ⟨by simp, by simp [Dv.new, Dv.at_, Vw.stays], fun v hv => (by simp [Dv.new, Dv.at_] at hv), fun v hv => (by simp [Dv.new, Dv.at_] at hv)⟩
end Go.Proofs.Ytdnoniolpplgiaa
