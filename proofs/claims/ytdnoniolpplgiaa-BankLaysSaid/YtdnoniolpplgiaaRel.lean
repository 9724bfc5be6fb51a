/- A device and the document's device, word by word the same: plain laws. -/
import Derived.Test.YtdnoniolpplgiaaPlain
namespace Go.Proofs.Ytdnoniolpplgiaa

/-- What there is of a word, by the document. -/
def Wd.vw (y : Wd) : Vw := ⟨if y.stays = 0 then none else some y.stays, if y.dirty = true then some y.holds else none, if y.way = true then some y.sent else none⟩
def vwOf : Option Wd → Vw
  | none => ⟨none, none, none⟩
  | some y => y.vw
theorem vw_stays (y : Wd) : y.vw.stays = y.stays := by
  unfold Wd.vw Vw.stays
  by_cases h : y.stays = 0 <;> simp [h]
theorem vw_clean (y : Wd) : y.clean.vw = y.vw.settle := by
  have hs := vw_stays y
  unfold Vw.settle
  unfold Wd.clean
  by_cases hd : y.dirty = true
  · by_cases hw : y.way = true
    · rw [if_neg (by simp [hw]), if_neg (by simp [Wd.vw, hw])]
    · have hw2 : y.way = false := by simpa using hw
      by_cases he : y.holds = y.stays
      · rw [if_pos ⟨hd, hw2, he⟩, if_pos ⟨by simp [Wd.vw, hw2], by rw [hs]; simp [Vw.holds, Wd.vw, hd, he]⟩]
        simp [Wd.vw, hw2]
      · rw [if_neg (fun h => he h.2.2), if_neg (fun h => he (by have := h.2; rw [hs] at this; simpa [Vw.holds, Wd.vw, hd] using this))]
  · have hd2 : y.dirty = false := by simpa using hd
    rw [if_neg (by simp [hd2])]
    have hc : y.vw.cache = none := by simp [Wd.vw, hd2]
    split
    · rw [← hc]
    · rfl
theorem vw_store (v : Int) (y : Wd) : ({ y with dirty := true, holds := v } : Wd).clean.vw = y.vw.put v := by
  rw [vw_clean]; rfl
theorem vw_persist (y : Wd) (x : Int) : ({ y with stays := x, way := false, sent := 0 } : Wd).clean.vw = y.vw.persist x := by
  rw [vw_clean]; rfl
theorem vw_send (y : Wd) (hd : y.dirty = true) : ({ y with way := true, sent := y.holds } : Wd).vw = y.vw.send := by
  simp [Wd.vw, Vw.send, hd]

/-- A find in a list that was turned. -/
theorem wFind_map (f : Wd → Wd) (hf : ∀ y, (f y).at_ = y.at_) (i : Int) : ∀ ws : List Wd, wFind (ws.mapIdx (fun _ => f)) i = (wFind ws i).map f := by
  intro ws
  rw [show ws.mapIdx (fun _ => f) = ws.map f from by apply List.ext_getElem?; intro k; rw [List.getElem?_mapIdx, List.getElem?_map]]
  unfold wFind
  induction ws with
  | nil => rfl
  | cons y t ih =>
    rw [List.map_cons, List.find?_cons, List.find?_cons, hf]
    cases (y.at_ == i) with
    | true => rfl
    | false => exact ih
def RisW (ws : List Wd) : Prop := ws.Pairwise (fun a b => a.at_ < b.at_)
theorem wFind_mem {ws : List Wd} {i : Int} {y : Wd} (h : wFind ws i = some y) : y ∈ ws ∧ y.at_ = i := by
  unfold wFind at h
  exact ⟨List.mem_of_find?_eq_some h, by have := List.find?_some h; simpa using this⟩
theorem wFind_of {ws : List Wd} (hr : RisW ws) {y : Wd} (hy : y ∈ ws) : wFind ws y.at_ = some y := by
  unfold wFind RisW at *
  induction ws with
  | nil => cases hy
  | cons x t ih =>
    rw [List.pairwise_cons] at hr
    rcases List.mem_cons.1 hy with rfl | h
    · simp
    · have := hr.1 y h
      rw [List.find?_cons_of_neg (by simp; omega)]
      exact ih hr.2 h

/-- They are the same. -/
structure Rel (d : Dv) (x : Rf) : Prop where
  n : d.n = x.n
  armed : d.armed = x.armed
  dead : d.dead = x.dead
  events : d.events = x.events
  ris : RisW x.ws
  ats : ∀ y ∈ x.ws, 0 ≤ y.at_ ∧ y.at_ < x.n
  pt : ∀ i, d.at_ i = vwOf (wFind x.ws i)

theorem Rel.holds {d : Dv} {x : Rf} (h : Rel d x) (i : Int) : d.holds i = x.holds i ∧ d.stays i = x.stays i := by
  have hp := h.pt i
  have e1 : d.holds i = (d.at_ i).holds := rfl
  have e2 : d.stays i = (d.at_ i).stays := rfl
  rw [e1, e2, hp]
  unfold Rf.holds Rf.stays
  cases wFind x.ws i with
  | none => exact ⟨rfl, rfl⟩
  | some y =>
    refine ⟨?_, vw_stays y⟩
    show y.vw.holds = _
    unfold Vw.holds
    rw [vw_stays]
    unfold Wd.vw
    cases hd : y.dirty <;> simp [hd]
theorem dirtyN_ris {ws : List Wd} (hr : RisW ws) : Ris (dirtyN ws) := by
  unfold Ris dirtyN
  rw [List.pairwise_map]
  exact List.Pairwise.filter _ hr
theorem Rel.dirty {d : Dv} {x : Rf} (h : Rel d x) {ks : List Int} (hr : Ris ks) (hm : ∀ k, k ∈ ks ↔ (d.cache k).isSome = true) : ks = dirtyN x.ws := by
  refine ris_ext hr (dirtyN_ris h.ris) fun k => ?_
  rw [hm]
  have hp : (d.at_ k).cache = d.cache k := rfl
  rw [← hp, h.pt k]
  unfold dirtyN
  rw [List.mem_map]
  constructor
  · intro hs
    cases hf : wFind x.ws k with
    | none => rw [hf] at hs; cases hs
    | some y =>
      rw [hf] at hs
      obtain ⟨h1, h2⟩ := wFind_mem hf
      refine ⟨y, List.mem_filter.2 ⟨h1, ?_⟩, h2⟩
      by_cases hd : y.dirty = true
      · exact hd
      · simp [vwOf, Wd.vw, hd] at hs
  · rintro ⟨y, hy, rfl⟩
    obtain ⟨h1, h2⟩ := List.mem_filter.1 hy
    rw [wFind_of h.ris h1]
    simp [vwOf, Wd.vw, h2]
end Go.Proofs.Ytdnoniolpplgiaa
