/- Storing and crashing leave both the same: plain laws. -/
import Derived.Test.YtdnoniolpplgiaaStays
namespace Go.Proofs.Ytdnoniolpplgiaa

/-- A word put into a sorted list. -/
def putW (f : Wd → Wd) (i : Int) : List Wd → List Wd
  | [] => [f (Wd.zero i)]
  | x :: t => if x.at_ < i then x :: putW f i t else if x.at_ = i then f x :: t else f (Wd.zero i) :: x :: t
theorem kOf_cons (x : Wd) (t : List Wd) (i : Int) : kOf (x :: t) i = if x.at_ < i then kOf t i + 1 else 0 := by
  unfold kOf
  rw [List.takeWhile_cons]
  by_cases h : x.at_ < i <;> simp [h]
theorem putW_eq (f : Wd → Wd) (i : Int) (ws : List Wd) : (placeW ws i).modify (kOf ws i) f = putW f i ws := by
  induction ws with
  | nil => simp [placeW, kOf, putW, List.modify]
  | cons x t ih =>
    unfold putW
    unfold placeW at ih ⊢
    rw [kOf_cons]
    by_cases h : x.at_ < i
    · rw [if_pos h, if_pos h, List.getElem?_cons_succ, List.take_succ_cons, List.drop_succ_cons]
      rw [← ih]
      by_cases h2 : (t[kOf t i]?).map Wd.at_ = some i
      · rw [if_pos h2, if_pos h2]; rfl
      · rw [if_neg h2, if_neg h2]; rfl
    · rw [if_neg h, if_neg h]
      by_cases h2 : x.at_ = i
      · rw [if_pos h2, if_pos (by simp [h2])]; rfl
      · rw [if_neg h2, if_neg (by simp [h2])]; rfl
theorem putW_mem {f : Wd → Wd} (hf : ∀ y, (f y).at_ = y.at_) {i : Int} {ws : List Wd} : ∀ {y : Wd}, y ∈ putW f i ws → y ∈ ws ∨ y.at_ = i := by
  induction ws with
  | nil => intro y h; rw [putW, List.mem_singleton] at h; subst h; exact .inr (hf _)
  | cons x t ih =>
    intro y h
    unfold putW at h
    split at h
    · rcases List.mem_cons.1 h with rfl | h
      · exact .inl List.mem_cons_self
      · rcases ih h with h | h
        · exact .inl (List.mem_cons_of_mem _ h)
        · exact .inr h
    · split at h
      · rename_i e
        rcases List.mem_cons.1 h with rfl | h
        · exact .inr ((hf _).trans e)
        · exact .inl (List.mem_cons_of_mem _ h)
      · rcases List.mem_cons.1 h with rfl | h
        · exact .inr (hf _)
        · exact .inl h
theorem putW_ris {f : Wd → Wd} (hf : ∀ y, (f y).at_ = y.at_) {i : Int} {ws : List Wd} (h : RisW ws) : RisW (putW f i ws) := by
  induction ws with
  | nil => exact List.pairwise_singleton _ _
  | cons x t ih =>
    unfold RisW at h ih ⊢
    rw [List.pairwise_cons] at h
    unfold putW
    split
    · rw [List.pairwise_cons]
      refine ⟨fun y hy => ?_, ih h.2⟩
      rcases putW_mem hf hy with hy | hy
      · exact h.1 y hy
      · omega
    · split
      · rw [List.pairwise_cons]
        exact ⟨fun y hy => by rw [hf]; exact h.1 y hy, h.2⟩
      · rw [List.pairwise_cons, List.pairwise_cons]
        have e0 : (f (Wd.zero i)).at_ = i := hf _
        refine ⟨fun y hy => ?_, h⟩
        rw [e0]
        rcases List.mem_cons.1 hy with rfl | hy
        · omega
        · have := h.1 y hy; omega
theorem wFind_cons (x : Wd) (t : List Wd) (j : Int) : wFind (x :: t) j = if x.at_ = j then some x else wFind t j := by
  unfold wFind
  by_cases h : x.at_ = j
  · rw [if_pos h, List.find?_cons_of_pos (by simp [h])]
  · rw [if_neg h, List.find?_cons_of_neg (by simp [h])]
theorem wFind_no {ws : List Wd} {j : Int} (h : ∀ y ∈ ws, y.at_ ≠ j) : wFind ws j = none := by
  unfold wFind
  rw [List.find?_eq_none]
  intro y hy
  simpa using h y hy
theorem putW_find {f : Wd → Wd} (hf : ∀ y, (f y).at_ = y.at_) {i : Int} {ws : List Wd} (h : RisW ws) (j : Int) : wFind (putW f i ws) j = if j = i then some (f ((wFind ws i).getD (Wd.zero i))) else wFind ws j := by
  induction ws with
  | nil =>
    rw [putW, wFind_cons, show (f (Wd.zero i)).at_ = i from hf _]
    by_cases e : j = i
    · rw [if_pos e, if_pos e.symm]; rfl
    · rw [if_neg e, if_neg (fun h => e h.symm)]
  | cons x t ih =>
    unfold RisW at h ih
    rw [List.pairwise_cons] at h
    unfold putW
    split
    · rename_i hx
      rw [wFind_cons, ih h.2, wFind_cons, wFind_cons, if_neg (show ¬ x.at_ = i by omega)]
      by_cases e : j = i
      · rw [if_pos e, if_pos e, if_neg (by omega)]
      · rw [if_neg e, if_neg e]
    · split
      · rename_i hx
        rw [wFind_cons, wFind_cons, hf, wFind_cons, if_pos hx]
        by_cases e : j = i
        · rw [if_pos e, if_pos (by omega)]; rfl
        · rw [if_neg e, if_neg (by omega), if_neg (by omega)]
      · rename_i h1 h2
        rw [wFind_cons, show (f (Wd.zero i)).at_ = i from hf _]
        have hn : wFind (x :: t) i = none := wFind_no (fun y hy => by
          rcases List.mem_cons.1 hy with rfl | hy
          · exact h2
          · have := h.1 y hy; omega)
        by_cases e : j = i
        · rw [if_pos e, if_pos e.symm, hn]; rfl
        · rw [if_neg e, if_neg (fun h => e h.symm)]
theorem vw_zero (i : Int) : (Wd.zero i).vw = ⟨none, none, none⟩ := rfl
theorem Rel.put {d : Dv} {x : Rf} (h : Rel d x) {i : Int} (h0 : 0 ≤ i) (h1 : i < x.n) (v : Int) : Rel (d.put i v) (x.put i v) := by
  have ha := put_alike d i v
  have hf : ∀ y, (Wd.store v y).at_ = y.at_ := store_at v
  unfold Rf.put
  rw [putW_eq]
  refine ⟨ha.n.trans h.n, ha.armed.trans h.armed, ha.dead.trans h.dead, ha.events.trans h.events, putW_ris hf h.ris, fun y hy => ?_, fun j => ?_⟩
  · rcases putW_mem hf hy with hy | hy
    · exact h.ats y hy
    · rw [hy]; exact ⟨h0, h1⟩
  · show _ = vwOf (wFind (putW (Wd.store v) i x.ws) j)
    rw [putW_find hf h.ris]
    by_cases e : j = i
    · subst e
      rw [if_pos rfl, put_same, h.pt]
      show _ = (Wd.store v _).vw
      rw [show (Wd.store v ((wFind x.ws j).getD (Wd.zero j))).vw = ((wFind x.ws j).getD (Wd.zero j)).vw.put v from vw_store v _]
      cases wFind x.ws j with
      | none => rfl
      | some y => rfl
    · rw [if_neg e, put_far _ _ e, h.pt]
theorem rel_store {d : Dv} {x : Rf} (h : Rel d x) (i v : Int) : (d.store i v).1 = (x.store i v).1 ∧ Rel (d.store i v).2 (x.store i v).2 := by
  unfold Dv.store Rf.store
  rw [h.n, h.dead, h.armed]
  by_cases hf : faultD x.dead i x.n ≠ 0
  · rw [if_pos hf, if_pos hf]; exact ⟨rfl, h⟩
  · rw [if_neg hf, if_neg hf]
    obtain ⟨_, h0, h1⟩ := fault_ok (show faultD x.dead i x.n = 0 by simpa using hf)
    by_cases ha : x.armed = 1
    · rw [if_pos ha, if_pos ha]; exact ⟨rfl, h.cut⟩
    · rw [if_neg ha, if_neg ha]
      exact ⟨rfl, h.tick.put (x := x.tick) h0 h1 v⟩

theorem crashN_idx (d : Dv) {ks : List Int} (hr : Ris ks) (keep : List Bool) {q : Nat} {i : Int} (hq : ks[q]? = some i) : ∀ j, (d.crashN ks keep j).at_ i = if q < j ∧ keep[q]? = some true then (d.at_ i).persist ((d.cache i).getD 0) else d.at_ i := by
  have huniq : ∀ p, ks[p]? = some i → p = q := by
    intro p hp
    obtain ⟨h1, e1⟩ := List.getElem?_eq_some_iff.1 hp
    obtain ⟨h2, e2⟩ := List.getElem?_eq_some_iff.1 hq
    unfold Ris at hr
    rw [List.pairwise_iff_getElem] at hr
    rcases Nat.lt_trichotomy p q with hl | hl | hl
    · have := hr p q h1 h2 hl; omega
    · exact hl
    · have := hr q p h2 h1 hl; omega
  intro j
  induction j with
  | zero => rw [if_neg (by omega)]; rfl
  | succ j ih =>
    cases hx : ks[j]? with
    | none =>
      show (Dv.at_ (match ks[j]? with | none => d.crashN ks keep j | some x => _) i) = _
      rw [hx]
      show (d.crashN ks keep j).at_ i = _
      rw [ih]
      have hne : q ≠ j := fun e => by rw [← e, hq] at hx; cases hx
      by_cases hc : q < j ∧ keep[q]? = some true
      · rw [if_pos hc, if_pos ⟨by omega, hc.2⟩]
      · rw [if_neg hc, if_neg (fun h => hc ⟨by omega, h.2⟩)]
    | some a =>
      by_cases hk : keep[j]? = some true
      · rw [crashN_yes hx hk]
        by_cases e : i = a
        · subst e
          obtain rfl := huniq j hx
          rw [persist_same, if_pos ⟨by omega, hk⟩]
          have hih : (d.crashN ks keep j).at_ i = d.at_ i := by rw [ih, if_neg (by omega)]
          rw [hih, show (d.crashN ks keep j).cache i = d.cache i from congrArg Vw.cache hih]
        · rw [persist_far _ _ e, ih]
          have hne : q ≠ j := fun e2 => e (by rw [← e2, hq] at hx; cases hx; rfl)
          by_cases hc : q < j ∧ keep[q]? = some true
          · rw [if_pos hc, if_pos ⟨by omega, hc.2⟩]
          · rw [if_neg hc, if_neg (fun h => hc ⟨by omega, h.2⟩)]
      · rw [crashN_no hx hk, ih]
        by_cases hc : q < j ∧ keep[q]? = some true
        · rw [if_pos hc, if_pos ⟨by omega, hc.2⟩]
        · rw [if_neg hc, if_neg (fun h => by
            rcases Nat.lt_or_ge q j with h2 | h2
            · exact hc ⟨h2, h.2⟩
            · obtain rfl : q = j := by omega
              exact hk h.2)]
theorem dirtyN_at {ws : List Wd} {p : Nat} {y : Wd} (hp : ws[p]? = some y) (hd : y.dirty = true) : (dirtyN ws)[(dirtyN (ws.take p)).length]? = some y.at_ := by
  obtain ⟨h, rfl⟩ := List.getElem?_eq_some_iff.1 hp
  have e : ws = ws.take p ++ (ws[p] :: ws.drop (p + 1)) := by rw [List.getElem_cons_drop, List.take_append_drop]
  have e2 : dirtyN ws = dirtyN (ws.take p) ++ dirtyN (ws[p] :: ws.drop (p + 1)) := by
    conv => lhs; rw [e]
    unfold dirtyN
    rw [List.filter_append, List.map_append]
  rw [e2, List.getElem?_append_right (Nat.le_refl _), Nat.sub_self]
  unfold dirtyN
  rw [List.filter_cons_of_pos hd]
  rfl
theorem persist_media (V : Vw) (x : Int) : (V.persist x).media = if x = 0 then none else some x := by
  unfold Vw.persist Vw.settle
  generalize (if x = 0 then none else some x : Option Int) = M
  split <;> rfl
theorem rel_crash {d : Dv} {x : Rf} (h : Rel d x) {ks : List Int} (hr : Ris ks) (hm : ∀ q, q ∈ ks ↔ (d.cache q).isSome = true) (keep : List Bool) : Rel (d.crash ks keep) (x.crash keep) := by
  have ha := crashN_alike d ks keep ks.length
  have hks : ks = dirtyN x.ws := h.dirty hr hm
  have hg : ∀ i y, (crashG keep x.ws i y).at_ = y.at_ := fun _ _ => rfl
  have hris : RisW (x.ws.mapIdx (crashG keep x.ws)) := risW_map h.ris _ hg
  refine ⟨ha.n.trans h.n, rfl, rfl, ha.events.trans h.events, hris, ats_map h.ats _ hg, fun i => ?_⟩
  show (⟨(d.crashN ks keep ks.length).media i, none, none⟩ : Vw) = vwOf (wFind (x.ws.mapIdx (crashG keep x.ws)) i)
  have hmed : (d.crashN ks keep ks.length).media i = ((d.crashN ks keep ks.length).at_ i).media := rfl
  rw [hmed]
  have hp := h.pt i
  have hc : (d.at_ i).cache = d.cache i := rfl
  cases hw : wFind x.ws i with
  | none =>
    rw [hw] at hp
    have hno : i ∉ ks := fun hi => by rw [hm, ← hc, hp] at hi; cases hi
    rw [crashN_far d ks keep hno, hp]
    rw [wFind_no]
    · rfl
    · intro y hy e
      obtain ⟨p, hp2, rfl⟩ := List.mem_iff_getElem.1 hy
      rw [List.getElem_mapIdx] at e
      rw [List.length_mapIdx] at hp2
      have := wFind_of h.ris (List.getElem_mem hp2)
      rw [show x.ws[p].at_ = i from e, hw] at this
      cases this
  | some y =>
    rw [hw] at hp
    obtain ⟨hym, hya⟩ := wFind_mem hw
    obtain ⟨p, hpl, hpy⟩ := List.mem_iff_getElem.1 hym
    have hpq : x.ws[p]? = some y := by rw [List.getElem?_eq_getElem hpl, hpy]
    have hmem : crashG keep x.ws p y ∈ x.ws.mapIdx (crashG keep x.ws) := by
      rw [List.mem_iff_getElem]
      exact ⟨p, by rw [List.length_mapIdx]; exact hpl, by rw [List.getElem_mapIdx, hpy]⟩
    have hfind := wFind_of hris hmem
    rw [show (crashG keep x.ws p y).at_ = i from hya] at hfind
    rw [hfind]
    show _ = (y.crash keep (dirtyN (x.ws.take p)).length).vw
    obtain ⟨hs, _⟩ := vw_some _ y hp
    rw [hc] at hs
    by_cases hd : y.dirty = true
    · have hq := dirtyN_at hpq hd
      rw [← hks, hya] at hq
      obtain ⟨hql, _⟩ := List.getElem?_eq_some_iff.1 hq
      rw [crashN_idx d hr keep hq]
      have hci : d.cache i = some y.holds := by rw [← hc, hp]; simp [vwOf, Wd.vw, hd]
      by_cases hk : keep[(dirtyN (x.ws.take p)).length]? = some true
      · rw [if_pos ⟨hql, hk⟩, persist_media, hci]
        unfold Wd.crash Wd.vw
        simp [hd, hk]
      · rw [if_neg (fun h => hk h.2), hp]
        unfold Wd.crash Wd.vw
        simp [hk, vwOf, Wd.vw]
    · have hno : i ∉ ks := fun hi => by rw [hm, hs] at hi; exact hd hi
      rw [crashN_far d ks keep hno, hp]
      unfold Wd.crash Wd.vw
      simp [hd, vwOf, Wd.vw]
theorem rel_do {d : Dv} {x : Rf} (h : Rel d x) {k : De} {r : Int × Dv} (hr : DoD d k r) : r.1 = (doX x k).1 ∧ Rel r.2 (doX x k).2 := by
  unfold DoD at hr
  unfold doX
  by_cases h1 : k.k = 1
  · rw [if_pos h1] at hr ⊢; subst hr; exact rel_flush h _
  rw [if_neg h1] at hr ⊢
  by_cases h2 : k.k = 2
  · rw [if_pos h2] at hr ⊢; obtain ⟨ks, a, b, rfl⟩ := hr; exact rel_fence h a b
  rw [if_neg h2] at hr ⊢
  by_cases h3 : k.k = 3
  · rw [if_pos h3] at hr ⊢; subst hr; obtain ⟨a, b⟩ := rel_evict h k.i; exact ⟨by simp only; rw [a], b⟩
  rw [if_neg h3] at hr ⊢
  by_cases h4 : k.k = 4
  · rw [if_pos h4] at hr ⊢; subst hr; exact ⟨rfl, h.arm _⟩
  rw [if_neg h4] at hr ⊢
  by_cases h5 : k.k = 5
  · rw [if_pos h5] at hr ⊢; obtain ⟨ks, a, b, rfl⟩ := hr; exact ⟨rfl, rel_crash h a b _⟩
  rw [if_neg h5] at hr ⊢
  subst hr; exact rel_store h _ _
theorem rel_new (n : Int) : Rel (Dv.new n) (Rf.new n) := by
  refine ⟨rfl, rfl, rfl, rfl, List.Pairwise.nil, fun y hy => (by cases hy), fun i => rfl⟩
end Go.Proofs.Ytdnoniolpplgiaa
