/- What is done to both leaves them the same: plain laws. -/
import Derived.Test.YtdnoniolpplgiaaRel
import Derived.Test.YtdnoniolpplgiaaDo
namespace Go.Proofs.Ytdnoniolpplgiaa

theorem lineN_iff (d : Dv) (line i : Int) : i ∈ lineN d line 8 ↔ i / 8 = line ∧ (d.cache i).isSome = true := by
  constructor
  · intro h
    obtain ⟨h1, k, hk, e⟩ := lineN_mem h
    exact ⟨by omega, h1⟩
  · rintro ⟨h1, h2⟩
    unfold lineN
    rw [List.mem_filter, List.mem_map]
    exact ⟨⟨(i % 8).toNat, List.mem_range.2 (by omega), by omega⟩, h2⟩
theorem lineN_ris (d : Dv) (line : Int) (j : Nat) : Ris (lineN d line j) := by
  unfold Ris lineN
  refine List.Pairwise.filter _ ?_
  rw [List.pairwise_map]
  exact List.pairwise_lt_range.imp (fun h => by omega)
theorem risW_map {ws : List Wd} (h : RisW ws) (g : Nat → Wd → Wd) (hg : ∀ i y, (g i y).at_ = y.at_) : RisW (ws.mapIdx g) := by
  unfold RisW at *
  rw [List.pairwise_iff_getElem] at *
  intro i j hi hj hij
  rw [List.getElem_mapIdx, List.getElem_mapIdx, hg, hg]
  rw [List.length_mapIdx] at hi hj
  exact h i j hi hj hij
theorem ats_map {ws : List Wd} {n : Int} (h : ∀ y ∈ ws, 0 ≤ y.at_ ∧ y.at_ < n) (g : Nat → Wd → Wd) (hg : ∀ i y, (g i y).at_ = y.at_) : ∀ y ∈ ws.mapIdx g, 0 ≤ y.at_ ∧ y.at_ < n := by
  intro y hy
  obtain ⟨i, hi, rfl⟩ := List.mem_iff_getElem.1 hy
  rw [List.getElem_mapIdx, hg]
  rw [List.length_mapIdx] at hi
  exact h _ (List.getElem_mem hi)
theorem Rel.tick {d : Dv} {x : Rf} (h : Rel d x) : Rel d.tick x.tick :=
  ⟨h.n, by show (if 0 < d.armed then d.armed - 1 else d.armed) = (if 0 < x.armed then x.armed - 1 else x.armed); rw [h.armed], h.dead, by show d.events + 1 = x.events + 1; rw [h.events], h.ris, h.ats, h.pt⟩
theorem Rel.cut {d : Dv} {x : Rf} (h : Rel d x) : Rel d.cut x.cut := ⟨h.n, rfl, rfl, h.events, h.ris, h.ats, h.pt⟩
theorem Rel.arm {d : Dv} {x : Rf} (h : Rel d x) (n : Int) : Rel { d with armed := n } { x with armed := n } := ⟨h.n, rfl, h.dead, h.events, h.ris, h.ats, h.pt⟩
/-- The maps have turned. -/
theorem Rel.turn {d d' : Dv} {x : Rf} (h : Rel d x) (hd : Alike4 d d') (g : Wd → Wd) (hg : ∀ y, (g y).at_ = y.at_) (hp : ∀ i, d'.at_ i = vwOf ((wFind x.ws i).map g)) : Rel d' { x with ws := x.ws.mapIdx (fun _ => g) } :=
  ⟨hd.n.trans h.n, hd.armed.trans h.armed, hd.dead.trans h.dead, hd.events.trans h.events, risW_map h.ris _ (fun _ y => hg y), ats_map h.ats _ (fun _ y => hg y), fun i => by rw [hp, wFind_map g hg]⟩

theorem vw_some (v : Vw) (y : Wd) (h : v = y.vw) : v.cache.isSome = y.dirty ∧ v.way.isSome = y.way := by
  subst h
  unfold Wd.vw
  cases y.dirty <;> cases y.way <;> simp

theorem rel_flush {d : Dv} {x : Rf} (h : Rel d x) (line : Int) : (d.flush line).1 = (x.flush line).1 ∧ Rel (d.flush line).2 (x.flush line).2 := by
  have hl : d.lines = x.lines := by unfold Dv.lines Rf.lines; rw [h.n]
  unfold Dv.flush Rf.flush
  rw [hl, h.dead, h.armed]
  by_cases hf : faultD x.dead line x.lines ≠ 0
  · rw [if_pos hf, if_pos hf]; exact ⟨rfl, h⟩
  · rw [if_neg hf, if_neg hf]
    by_cases ha : x.armed = 1
    · rw [if_pos ha, if_pos ha]; exact ⟨rfl, h.cut⟩
    · rw [if_neg ha, if_neg ha]
      refine ⟨rfl, h.tick.turn (sends_alike _ _) (Wd.send line) (send_at line) fun i => ?_⟩
      rw [sends_at _ _ _ (lineN_ris d line 8), h.tick.pt i]
      have hp := h.pt i
      have hc : (d.at_ i).cache = d.cache i := rfl
      show (if i ∈ lineN d line 8 then (vwOf (wFind x.ws i)).send else vwOf (wFind x.ws i)) = vwOf ((wFind x.ws i).map (Wd.send line))
      cases hw : wFind x.ws i with
      | none =>
        rw [hw] at hp
        rw [if_neg (by rw [lineN_iff, ← hc, hp]; simp [vwOf])]
        rfl
      | some y =>
        rw [hw] at hp
        obtain ⟨hs, _⟩ := vw_some _ y hp
        obtain ⟨_, hya⟩ := wFind_mem hw
        rw [hc] at hs
        show _ = (Wd.send line y).vw
        unfold Wd.send
        by_cases hcd : y.at_ / 8 = line ∧ y.dirty = true
        · rw [if_pos hcd, if_pos (by rw [lineN_iff, hs, ← hya]; exact hcd), vw_send y hcd.2]; rfl
        · rw [if_neg hcd, if_neg (by rw [lineN_iff, hs, ← hya]; exact hcd)]; rfl

theorem rel_fence {d : Dv} {x : Rf} (h : Rel d x) {ks : List Int} (hr : Ris ks) (hm : ∀ q, q ∈ ks ↔ (d.way q).isSome = true) : (d.fenceR ks).1 = x.fence.1 ∧ Rel (d.fenceR ks).2 x.fence.2 := by
  unfold Dv.fenceR Rf.fence
  rw [h.dead, h.armed]
  by_cases hf : x.dead = true
  · rw [if_pos hf, if_pos hf]; exact ⟨rfl, h⟩
  · rw [if_neg hf, if_neg hf]
    by_cases ha : x.armed = 1
    · rw [if_pos ha, if_pos ha]; exact ⟨rfl, h.cut⟩
    · rw [if_neg ha, if_neg ha]
      refine ⟨rfl, h.tick.turn (fences_alike _ _) Wd.fence fence_at fun i => ?_⟩
      rw [fences_at _ _ _ hr, h.tick.pt i]
      have hp := h.pt i
      have hc : (d.at_ i).way = d.way i := rfl
      have hdw : d.tick.way i = d.way i := rfl
      rw [hdw]
      show (if i ∈ ks then (vwOf (wFind x.ws i)).persist ((d.way i).getD 0) else vwOf (wFind x.ws i)) = vwOf ((wFind x.ws i).map Wd.fence)
      cases hw : wFind x.ws i with
      | none =>
        rw [hw] at hp
        rw [if_neg (by rw [hm, ← hc, hp]; simp [vwOf])]
        rfl
      | some y =>
        rw [hw] at hp
        obtain ⟨_, hs⟩ := vw_some _ y hp
        rw [hc] at hs
        show _ = (Wd.fence y).vw
        unfold Wd.fence
        by_cases hcd : y.way = true
        · rw [if_pos hcd, if_pos (by rw [hm, hs]; exact hcd), vw_persist]
          have : d.way i = some y.sent := by rw [← hc, hp]; simp [vwOf, Wd.vw, hcd]
          rw [this]; rfl
        · rw [if_neg hcd, if_neg (by rw [hm, hs]; exact hcd)]; rfl

theorem rel_evict {d : Dv} {x : Rf} (h : Rel d x) (line : Int) : (d.evict line).1 = (x.evict line).1 ∧ Rel (d.evict line).2 (x.evict line).2 := by
  have hl : d.lines = x.lines := by unfold Dv.lines Rf.lines; rw [h.n]
  have key : ∀ i, (d.keeps (lineN d line 8)).at_ i = vwOf ((wFind x.ws i).map (Wd.evict line)) := by
    intro i
    rw [keeps_at _ _ _ (lineN_ris d line 8), h.pt i]
    have hp := h.pt i
    have hc : (d.at_ i).cache = d.cache i := rfl
    cases hw : wFind x.ws i with
    | none =>
      rw [hw] at hp
      rw [if_neg (by rw [lineN_iff, ← hc, hp]; simp [vwOf])]
      rfl
    | some y =>
      rw [hw] at hp
      obtain ⟨hs, _⟩ := vw_some _ y hp
      obtain ⟨_, hya⟩ := wFind_mem hw
      rw [hc] at hs
      show _ = (Wd.evict line y).vw
      unfold Wd.evict
      by_cases hcd : y.at_ / 8 = line ∧ y.dirty = true
      · rw [if_pos hcd, if_pos (by rw [lineN_iff, hs, ← hya]; exact hcd), vw_persist]
        have : d.cache i = some y.holds := by rw [← hc, hp]; simp [vwOf, Wd.vw, hcd.2]
        rw [this]; rfl
      · rw [if_neg hcd, if_neg (by rw [lineN_iff, hs, ← hya]; exact hcd)]; rfl
  have hev : decide (0 < (lineN d line 8).length) = evB line x.ws := by
    rw [Bool.eq_iff_iff, decide_eq_true_iff, List.length_pos_iff_exists_mem]
    unfold evB
    rw [List.any_eq_true]
    constructor
    · rintro ⟨i, hi⟩
      rw [lineN_iff] at hi
      have hp := h.pt i
      have hc : (d.at_ i).cache = d.cache i := rfl
      cases hw : wFind x.ws i with
      | none => rw [hw] at hp; rw [← hc, hp] at hi; simp [vwOf] at hi
      | some y =>
        rw [hw] at hp
        obtain ⟨hs, _⟩ := vw_some _ y hp
        obtain ⟨hym, hya⟩ := wFind_mem hw
        rw [hc] at hs
        exact ⟨y, hym, by simp [hya, hi.1, ← hs, hi.2]⟩
    · rintro ⟨y, hy, hb⟩
      rw [Bool.and_eq_true, beq_iff_eq] at hb
      have hp := h.pt y.at_
      rw [wFind_of h.ris hy] at hp
      obtain ⟨hs, _⟩ := vw_some _ y hp
      exact ⟨y.at_, by rw [lineN_iff]; exact ⟨hb.1, by rw [← hb.2]; exact hs⟩⟩
  have hsame : Rel (d.keeps (lineN d line 8)) { x with ws := x.ws.mapIdx (fun _ => Wd.evict line) } := h.turn (keeps_alike _ _) (Wd.evict line) (evict_at line) key
  unfold Dv.evict Rf.evict
  rw [hl, h.dead]
  by_cases hd : x.dead = true
  · rw [if_pos hd, if_pos (by rw [hd]; show (5 : Int) ≠ 0; omega)]; exact ⟨rfl, h⟩
  · rw [if_neg hd]
    have hd2 : x.dead = false := by simpa using hd
    by_cases hf : faultD x.dead line x.lines ≠ 0
    · rw [if_pos hf]
      have hout : line < 0 ∨ x.lines ≤ line := by
        by_cases hh : line < 0 ∨ x.lines ≤ line
        · exact hh
        · exact absurd (by unfold faultD; rw [if_neg hd, if_neg hh]) hf
      have hno : ∀ y ∈ x.ws, ¬ (y.at_ / 8 = line) := by
        intro y hy e
        have := h.ats y hy
        unfold Rf.lines at hout
        omega
      have hid : x.ws.mapIdx (fun _ => Wd.evict line) = x.ws := by
        apply List.ext_getElem?
        intro k
        rw [List.getElem?_mapIdx]
        cases hk : x.ws[k]? with
        | none => rfl
        | some y => show some (Wd.evict line y) = some y; unfold Wd.evict; rw [if_neg (fun h2 => hno y (List.mem_of_getElem? hk) h2.1)]
      rw [hid]
      refine ⟨?_, h⟩
      show false = evB line x.ws
      rw [eq_comm]
      unfold evB
      rw [List.any_eq_false]
      intro y hy
      simp [hno y hy]
    · rw [if_neg hf]
      exact ⟨hev, hsame⟩
end Go.Proofs.Ytdnoniolpplgiaa
