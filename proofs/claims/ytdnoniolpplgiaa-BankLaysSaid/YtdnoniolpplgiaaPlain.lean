/- What a device and the document's device have in common, plainly: word by word. -/
import Derived.Test.YtdnoniolpplgiaaRef4
namespace Go.Proofs.Ytdnoniolpplgiaa

/-- What there is of a word. -/
structure Vw where
  media : Option Int
  cache : Option Int
  way : Option Int
deriving DecidableEq
def Dv.at_ (d : Dv) (i : Int) : Vw := ⟨d.media i, d.cache i, d.way i⟩
def Vw.stays (v : Vw) : Int := v.media.getD 0
def Vw.holds (v : Vw) : Int := v.cache.getD v.stays
def Vw.settle (v : Vw) : Vw := if v.way = none ∧ v.holds = v.stays then { v with cache := none } else v
def Vw.put (v : Vw) (x : Int) : Vw := ({ v with cache := some x } : Vw).settle
def Vw.persist (v : Vw) (x : Int) : Vw := ({ v with way := none, media := if x = 0 then none else some x } : Vw).settle
def Vw.send (v : Vw) : Vw := { v with way := some (v.cache.getD 0) }

theorem settle_same (d : Dv) (i : Int) : (d.settle i).at_ i = (d.at_ i).settle := by
  unfold Dv.settle Vw.settle
  by_cases h : d.way i = none ∧ d.holds i = d.stays i
  · have h2 : (d.at_ i).way = none ∧ (d.at_ i).holds = (d.at_ i).stays := h
    rw [if_pos h, if_pos h2]
    simp [Dv.at_, delF]
  · have h2 : ¬ ((d.at_ i).way = none ∧ (d.at_ i).holds = (d.at_ i).stays) := h
    rw [if_neg h, if_neg h2]
theorem settle_far (d : Dv) {i k : Int} (h : k ≠ i) : (d.settle i).at_ k = d.at_ k := by
  unfold Dv.settle
  split
  · simp [Dv.at_, delF, h]
  · rfl
theorem put_same (d : Dv) (i x : Int) : (d.put i x).at_ i = (d.at_ i).put x := by
  unfold Dv.put Vw.put
  rw [settle_same]
  congr 1
  simp [Dv.at_, setF]
theorem put_far (d : Dv) {i k : Int} (x : Int) (h : k ≠ i) : (d.put i x).at_ k = d.at_ k := by
  unfold Dv.put
  rw [settle_far _ h]
  simp [Dv.at_, setF, h]
theorem persist_same (d : Dv) (i x : Int) : (d.persist i x).at_ i = (d.at_ i).persist x := by
  unfold Dv.persist Vw.persist
  rw [settle_same]
  congr 1
  by_cases hx : x = 0 <;> simp [Dv.at_, setF, delF, hx]
theorem persist_far (d : Dv) {i k : Int} (x : Int) (h : k ≠ i) : (d.persist i x).at_ k = d.at_ k := by
  unfold Dv.persist
  rw [settle_far _ h]
  by_cases hx : x = 0 <;> simp [Dv.at_, setF, delF, hx, h]
theorem send_same (d : Dv) (i : Int) : (d.send i).at_ i = (d.at_ i).send := by simp [Dv.send, Vw.send, Dv.at_, setF]
theorem send_far (d : Dv) {i k : Int} (h : k ≠ i) : (d.send i).at_ k = d.at_ k := by simp [Dv.send, Dv.at_, setF, h]
theorem ris_tail {a : Int} {l : List Int} (h : Ris (a :: l)) : Ris l ∧ a ∉ l := by
  unfold Ris at h
  rw [List.pairwise_cons] at h
  exact ⟨h.2, fun hm => by have := h.1 a hm; omega⟩

theorem sends_at (l : List Int) : ∀ (d : Dv) (k : Int), Ris l → (d.sends l).at_ k = if k ∈ l then (d.at_ k).send else d.at_ k := by
  induction l with
  | nil => intro d k _; simp [Dv.sends]
  | cons a l ih =>
    intro d k hr
    obtain ⟨h1, h2⟩ := ris_tail hr
    show ((d.send a).sends l).at_ k = _
    rw [ih _ _ h1]
    by_cases e : k = a
    · subst e; rw [if_neg h2, if_pos (by simp), send_same]
    · rw [send_far d e]; simp [e]
theorem fences_at (l : List Int) : ∀ (d : Dv) (k : Int), Ris l → (d.fences l).at_ k = if k ∈ l then (d.at_ k).persist ((d.way k).getD 0) else d.at_ k := by
  induction l with
  | nil => intro d k _; simp [Dv.fences]
  | cons a l ih =>
    intro d k hr
    obtain ⟨h1, h2⟩ := ris_tail hr
    show ((d.fence a).fences l).at_ k = _
    rw [ih _ _ h1]
    unfold Dv.fence
    by_cases e : k = a
    · subst e; rw [if_neg h2, if_pos (by simp), persist_same]
    · have hf := persist_far d ((d.way a).getD 0) e
      have hw : (d.persist a ((d.way a).getD 0)).way k = d.way k := congrArg Vw.way hf
      rw [hf, hw]; simp [e]
theorem keeps_at (l : List Int) : ∀ (d : Dv) (k : Int), Ris l → (d.keeps l).at_ k = if k ∈ l then (d.at_ k).persist ((d.cache k).getD 0) else d.at_ k := by
  induction l with
  | nil => intro d k _; simp [Dv.keeps]
  | cons a l ih =>
    intro d k hr
    obtain ⟨h1, h2⟩ := ris_tail hr
    show ((d.persist a ((d.cache a).getD 0)).keeps l).at_ k = _
    rw [ih _ _ h1]
    by_cases e : k = a
    · subst e; rw [if_neg h2, if_pos (by simp), persist_same]
    · have hf := persist_far d ((d.cache a).getD 0) e
      have hw : (d.persist a ((d.cache a).getD 0)).cache k = d.cache k := congrArg Vw.cache hf
      rw [hf, hw]; simp [e]
end Go.Proofs.Ytdnoniolpplgiaa
