/- What laying leaves, plainly: of a clean device (package bank). -/
import Derived.Test.YtdnoniolpplgiaaLay
import Derived.Test.YtdnoniolpplgiaaRel3
namespace Go.Proofs.Ytdnoniolpplgiaa
open Go.RowKit Go.Maps Go.Sort Go.Shelf

/-- Words laid over others, from a place on. -/
def updF (f : Int → Int) (a : Int) (xs : List Int) : Int → Int := fun k => if a ≤ k ∧ k < a + xs.length then xs[(k - a).toNat]?.getD 0 else f k
theorem updF_nil (f : Int → Int) (a : Int) : updF f a [] = f := by
  funext k
  unfold updF
  rw [if_neg (by simp only [List.length_nil]; omega)]
theorem updF_cons (f : Int → Int) (a x : Int) (l : List Int) : updF f a (x :: l) = updF (fun k => if k = a then x else f k) (a + 1) l := by
  funext k
  unfold updF
  by_cases h0 : k = a
  · subst h0
    rw [if_pos (by simp; omega), if_neg (by omega)]
    simp
  · by_cases h1 : a ≤ k ∧ k < a + (x :: l).length
    · have h2 : a + 1 ≤ k ∧ k < a + 1 + l.length := by simp at h1; omega
      rw [if_pos h1, if_pos h2]
      obtain ⟨j, hj⟩ : ∃ j : Nat, k - a = j + 1 := ⟨(k - a - 1).toNat, by omega⟩
      rw [show (k - a).toNat = j + 1 by omega, show (k - (a + 1)).toNat = j by omega]
      simp
    · have h2 : ¬ (a + 1 ≤ k ∧ k < a + 1 + l.length) := by simp at h1; omega
      rw [if_neg h1, if_neg h2]; exact (if_neg h0).symm
theorem updF_out {f : Int → Int} {a k : Int} {xs : List Int} (h : k < a ∨ a + xs.length ≤ k) : updF f a xs k = f k := if_neg (by omega)
theorem updF_in {f : Int → Int} {a : Int} {xs : List Int} {j : Nat} (h : j < xs.length) : updF f a xs (a + j) = xs[j] := by
  unfold updF
  rw [if_pos (by omega), show (a + (j : Int) - a).toNat = j by omega, List.getElem?_eq_getElem h]
  rfl
theorem updF_take (f : Int → Int) (a : Int) (xs : List Int) (j : Nat) (k : Int) : updF f a (xs.take j) k = f k ∨ updF f a (xs.take j) k = updF f a xs k := by
  unfold updF
  by_cases h : a ≤ k ∧ k < a + (xs.take j).length
  · right
    have hl := h.2
    rw [List.length_take] at hl
    rw [if_pos h, if_pos (by omega), List.getElem?_take_of_lt (by omega)]
  · left; rw [if_neg h]

/-- A device on which everything is fenced. -/
def Cl (d : Dv) (f : Int → Int) : Prop := ∀ k, (d.at_ k).cache = none ∧ (d.at_ k).way = none ∧ (d.at_ k).stays = f k
/-- A device on which some words are on their way. -/
def Half (d : Dv) (f g : Int → Int) : Prop := ∀ k, (d.at_ k).stays = f k ∧ ((d.at_ k).holds = f k ∨ (d.at_ k).holds = g k)
structure Same (d e : Dv) : Prop where
  n : e.n = d.n
  dead : e.dead = false
  armed : d.armed = 0 → e.armed = 0
theorem Same.refl {d : Dv} (h : d.dead = false) : Same d d := ⟨rfl, h, id⟩
theorem Same.trans {a b c : Dv} (h : Same a b) (k : Same b c) : Same a c := ⟨k.n.trans h.n, k.dead, fun x => k.armed (h.armed x)⟩
theorem Same.tick {d : Dv} (h : d.dead = false) : Same d d.tick := ⟨rfl, h, fun x => by show (if 0 < d.armed then _ else d.armed) = 0; rw [x]; rfl⟩
theorem Same.alike {a d e : Dv} (h : Same a d) (k : Alike4 d e) : Same a e := ⟨k.n.trans h.n, k.dead.trans h.dead, fun x => k.armed.trans (h.armed x)⟩

theorem put_stays (v : Vw) (x : Int) : (v.put x).stays = v.stays := by unfold Vw.put Vw.settle; split <;> rfl
theorem put_way (v : Vw) (x : Int) : (v.put x).way = v.way := by unfold Vw.put Vw.settle; split <;> rfl
theorem put_holds (v : Vw) (x : Int) : (v.put x).holds = x := by
  unfold Vw.put Vw.settle
  split
  · next h => exact h.2.symm
  · rfl

/-- Words stored, none flushed. -/
structure St (d : Dv) (f h : Int → Int) (lo hi : Int) : Prop where
  s : ∀ k, (d.at_ k).stays = f k
  y : ∀ k, (d.at_ k).way = none
  h : ∀ k, (d.at_ k).holds = h k
  c : ∀ k, (d.at_ k).cache ≠ none → lo ≤ k ∧ k < hi
theorem St.put {d : Dv} {f h : Int → Int} {lo hi : Int} (H : St d f h lo hi) {a : Int} (x : Int) (h0 : lo ≤ a) (h1 : a < hi) : St (d.put a x) f (fun k => if k = a then x else h k) lo hi := by
  refine ⟨fun k => ?_, fun k => ?_, fun k => ?_, fun k => ?_⟩
  all_goals by_cases hk : k = a
  · subst hk; rw [put_same, put_stays]; exact H.s k
  · rw [put_far d x hk]; exact H.s k
  · subst hk; rw [put_same, put_way]; exact H.y k
  · rw [put_far d x hk]; exact H.y k
  · subst hk; rw [put_same, put_holds, if_pos rfl]
  · rw [put_far d x hk, if_neg hk]; exact H.h k
  · subst hk; intro _; exact ⟨h0, h1⟩
  · rw [put_far d x hk]; exact H.c k
theorem St.at_ {d e : Dv} {f h : Int → Int} {lo hi : Int} (H : St d f h lo hi) (k : ∀ k, e.at_ k = d.at_ k) : St e f h lo hi :=
  ⟨fun i => by rw [k]; exact H.s i, fun i => by rw [k]; exact H.y i, fun i => by rw [k]; exact H.h i, fun i => by rw [k]; exact H.c i⟩

theorem stores_st {f : Int → Int} {lo hi : Int} (xs : List Int) : ∀ (d : Dv) (h : Int → Int) (a : Int), d.dead = false → lo ≤ a → a + xs.length ≤ hi → 0 ≤ a → a + xs.length ≤ d.n → St d f h lo hi →
    ((d.stores a xs).1 = 0 ∧ Same d (d.stores a xs).2 ∧ St (d.stores a xs).2 f (updF h a xs) lo hi) ∨
    ((d.stores a xs).1 = 5 ∧ d.armed ≠ 0 ∧ (d.stores a xs).2.n = d.n ∧ ∃ j, St (d.stores a xs).2 f (updF h a (xs.take j)) lo hi) := by
  induction xs with
  | nil => intro d h a hd _ _ _ _ H; left; exact ⟨rfl, Same.refl hd, by rw [updF_nil]; exact H⟩
  | cons x l ih =>
    intro d h a hd h0 h1 h2 h3 H
    rw [List.length_cons] at h1 h3
    have hf : faultD d.dead a d.n = 0 := by rw [hd]; exact fault_in h2 (by omega)
    by_cases ha : d.armed = 1
    · right
      have hs : d.stores a (x :: l) = (5, d.cut) := by unfold Dv.stores; rw [store_cut x hf ha, if_pos (by simp)]
      rw [hs]
      refine ⟨rfl, by omega, rfl, 0, ?_⟩
      rw [List.take_zero, updF_nil]
      exact H.at_ (fun _ => rfl)
    · have hs : d.stores a (x :: l) = (d.tick.put a x).stores (a + 1) l := by
        rw [Dv.stores, store_go x hf ha, if_neg (by simp)]
      have hsm : Same d (d.tick.put a x) := (Same.tick hd).alike (put_alike _ _ _)
      have hst : St (d.tick.put a x) f (fun k => if k = a then x else h k) lo hi := (H.at_ (e := d.tick) (fun _ => rfl)).put x h0 (by omega)
      have hnn : (d.tick.put a x).n = d.n := hsm.n
      rw [hs]
      rcases ih (d.tick.put a x) _ (a + 1) hsm.dead (by omega) (by omega) (by omega) (by omega) hst with ⟨e1, e2, e3⟩ | ⟨e1, e2, e3, j, e4⟩
      · left; refine ⟨e1, hsm.trans e2, ?_⟩; rw [updF_cons]; exact e3
      · right
        refine ⟨e1, fun h => e2 (hsm.armed h), e3.trans hnn, j + 1, ?_⟩
        rw [List.take_succ_cons, updF_cons]
        exact e4

/-- Words stored, the lines below this one flushed. -/
structure Fl (d : Dv) (f h : Int → Int) (lo hi L : Int) : Prop where
  s : ∀ k, (d.at_ k).stays = f k
  h : ∀ k, (d.at_ k).holds = h k
  c : ∀ k, (d.at_ k).cache ≠ none → lo ≤ k ∧ k < hi
  w1 : ∀ k x, (d.at_ k).way = some x → (d.at_ k).cache = some x
  w2 : ∀ k x, (d.at_ k).cache = some x → k < 8 * L → (d.at_ k).way = some x
theorem Fl.at_ {d e : Dv} {f h : Int → Int} {lo hi L : Int} (H : Fl d f h lo hi L) (k : ∀ k, e.at_ k = d.at_ k) : Fl e f h lo hi L :=
  ⟨fun i => by rw [k]; exact H.s i, fun i => by rw [k]; exact H.h i, fun i => by rw [k]; exact H.c i, fun i => by rw [k]; exact H.w1 i, fun i => by rw [k]; exact H.w2 i⟩
theorem Fl.sends {d : Dv} {f h : Int → Int} {lo hi L : Int} (H : Fl d f h lo hi L) : Fl (d.sends (lineN d L 8)) f h lo hi (L + 1) := by
  have e := fun k => sends_at (lineN d L 8) d k (lineN_ris d L 8)
  refine ⟨fun k => ?_, fun k => ?_, fun k => ?_, fun k x => ?_, fun k x => ?_⟩
  all_goals rw [e k]
  · split
    · exact H.s k
    · exact H.s k
  · split
    · exact H.h k
    · exact H.h k
  · split
    · exact H.c k
    · exact H.c k
  · split
    · next hm =>
      intro hx
      have hc := ((lineN_iff d L k).1 hm).2
      obtain ⟨z, hz⟩ := Option.isSome_iff_exists.1 hc
      have hz' : (d.at_ k).cache = some z := hz
      simp only [Vw.send, hz', Option.getD_some, Option.some.injEq] at hx ⊢
      exact hx
    · exact H.w1 k x
  · split
    · next hm =>
      intro hx _
      have hx' : (d.at_ k).cache = some x := hx
      simp only [Vw.send, hx', Option.getD_some]
    · next hm =>
      intro hx hk
      refine H.w2 k x hx ?_
      by_cases hl : k < 8 * L
      · exact hl
      · exfalso; apply hm; rw [lineN_iff]; exact ⟨by omega, by rw [show d.cache k = some x from hx]; rfl⟩
theorem flushes_fl {f h : Int → Int} {lo hi : Int} (n : Nat) : ∀ (d : Dv) (L : Int), d.dead = false → 0 ≤ L → L + n ≤ d.lines → Fl d f h lo hi L →
    ((d.flushes L n).1 = 0 ∧ Same d (d.flushes L n).2 ∧ Fl (d.flushes L n).2 f h lo hi (L + n)) ∨
    ((d.flushes L n).1 = 5 ∧ d.armed ≠ 0 ∧ (d.flushes L n).2.n = d.n ∧ ∃ M, Fl (d.flushes L n).2 f h lo hi M) := by
  induction n with
  | zero =>
    intro d L hd _ _ H
    left
    refine ⟨rfl, Same.refl hd, ?_⟩
    rw [show L + ((0 : Nat) : Int) = L by omega]
    exact H
  | succ n ih =>
    intro d L hd h0 h1 H
    have hf : faultD d.dead L d.lines = 0 := by rw [hd]; exact fault_in h0 (by omega)
    by_cases ha : d.armed = 1
    · right
      have hs : d.flushes L (n + 1) = (5, d.cut) := by rw [Dv.flushes, flush_cut hf ha, if_pos (by simp)]
      rw [hs]
      exact ⟨rfl, by omega, rfl, L, H.at_ (fun _ => rfl)⟩
    · have hs : d.flushes L (n + 1) = (d.tick.sends (lineN d L 8)).flushes (L + 1) n := by
        rw [Dv.flushes, flush_go hf ha, if_neg (by simp)]
      have hsm : Same d (d.tick.sends (lineN d L 8)) := (Same.tick hd).alike (sends_alike _ _)
      have hst : Fl (d.tick.sends (lineN d L 8)) f h lo hi (L + 1) := (H.at_ (e := d.tick) (fun _ => rfl)).sends
      have hnn : (d.tick.sends (lineN d L 8)).n = d.n := hsm.n
      rw [hs]
      have hln : (d.tick.sends (lineN d L 8)).lines = d.lines := by unfold Dv.lines; rw [hnn]
      rcases ih (d.tick.sends (lineN d L 8)) (L + 1) hsm.dead (by omega) (by rw [hln]; omega) hst with ⟨e1, e2, e3⟩ | ⟨e1, e2, e3, M, e4⟩
      · left; refine ⟨e1, hsm.trans e2, ?_⟩; rw [show L + ((n + 1 : Nat) : Int) = L + 1 + n by omega]; exact e3
      · right; exact ⟨e1, fun h => e2 (hsm.armed h), e3.trans hnn, M, e4⟩
theorem Fl.half {d : Dv} {f h g : Int → Int} {lo hi L : Int} (H : Fl d f h lo hi L) (hg : ∀ k, h k = f k ∨ h k = g k) : Half d f g := fun k => ⟨H.s k, by rw [H.h k]; exact hg k⟩
theorem St.half {d : Dv} {f h g : Int → Int} {lo hi : Int} (H : St d f h lo hi) (hg : ∀ k, h k = f k ∨ h k = g k) : Half d f g := fun k => ⟨H.s k, by rw [H.h k]; exact hg k⟩
theorem Half.at_ {d e : Dv} {f g : Int → Int} (H : Half d f g) (k : ∀ k, e.at_ k = d.at_ k) : Half e f g := fun i => by rw [k]; exact H i

theorem Fl.fences {d : Dv} {f h : Int → Int} {lo hi L : Int} (H : Fl d f h lo hi L) (hL : hi ≤ 8 * L) {ks : List Int} (hr : Ris ks) (hm : ∀ q, q ∈ ks ↔ (d.way q).isSome = true) : Cl (d.fences ks) h := by
  intro k
  rw [fences_at ks d k hr]
  have hh := H.h k
  by_cases hk : k ∈ ks
  · rw [if_pos hk]
    obtain ⟨x, hx⟩ := Option.isSome_iff_exists.1 ((hm k).1 hk)
    have hc := H.w1 k x hx
    rw [hx, Option.getD_some]
    generalize d.at_ k = V at *
    have hxx : x = h k := by rw [← hh]; unfold Vw.holds; rw [hc]; rfl
    have hst : (({ V with way := none, media := if x = 0 then none else some x } : Vw)).stays = x := by
      unfold Vw.stays
      by_cases hv : x = 0 <;> simp [hv]
    have hho : (({ V with way := none, media := if x = 0 then none else some x } : Vw)).holds = x := by
      unfold Vw.holds
      simp only [hc, Option.getD_some]
    unfold Vw.persist Vw.settle
    rw [if_pos ⟨rfl, hho.trans hst.symm⟩]
    exact ⟨rfl, rfl, hst.trans hxx⟩
  · rw [if_neg hk]
    have hw : (d.at_ k).way = none := by
      cases e : (d.at_ k).way with
      | none => rfl
      | some x => exact absurd ((hm k).2 (by rw [show d.way k = some x from e]; rfl)) hk
    have hcn : (d.at_ k).cache = none := by
      cases e : (d.at_ k).cache with
      | none => rfl
      | some x =>
        have h1 := H.c k (by rw [e]; simp)
        have h2 := H.w2 k x e (by omega)
        rw [hw] at h2
        cases h2
    refine ⟨hcn, hw, ?_⟩
    rw [← hh]
    unfold Vw.holds
    rw [hcn]; rfl

/-- What laying leaves of a clean device. -/
theorem lay_law {d : Dv} {f : Int → Int} {a : Int} {xs : List Int} {r : Int × Dv} (hd : d.dead = false) (hC : Cl d f) (h0 : 0 ≤ a) (h1 : a + xs.length ≤ d.n) (hL : LayIs d a xs r) :
    (r.1 = 0 ∧ Same d r.2 ∧ Cl r.2 (updF f a xs)) ∨ (r.1 = 5 ∧ d.armed ≠ 0 ∧ r.2.n = d.n ∧ Half r.2 f (updF f a xs)) := by
  unfold LayIs at hL
  by_cases hx : xs = []
  · rw [if_pos hx] at hL
    subst hx
    rw [hL]
    left
    exact ⟨rfl, Same.refl hd, by rw [updF_nil]; exact hC⟩
  · rw [if_neg hx] at hL
    have hlen : 0 < xs.length := List.length_pos_iff.2 hx
    have hst : St d f f a (a + xs.length) := ⟨fun k => (hC k).2.2, fun k => (hC k).2.1, fun k => by unfold Vw.holds; rw [(hC k).1]; exact (hC k).2.2, fun k hk => absurd (hC k).1 hk⟩
    rcases stores_st xs d f a hd (Int.le_refl _) (Int.le_refl _) h0 h1 hst with ⟨e1, e2, e3⟩ | ⟨e1, e2, e3, j, e4⟩
    · rw [if_neg (by simp [e1])] at hL
      generalize hd1 : (d.stores a xs).2 = d1 at *
      have hfl : Fl d1 f (updF f a xs) a (a + xs.length) (a / 8) := by
        refine ⟨e3.s, e3.h, e3.c, fun k x hx => ?_, fun k x hx hk => ?_⟩
        · rw [e3.y k] at hx; cases hx
        · have := e3.c k (by rw [hx]; simp)
          omega
      have hln : d1.lines = (d.n + 7) / 8 := by unfold Dv.lines; rw [e2.n]
      rcases flushes_fl ((a + xs.length - 1) / 8 - a / 8 + 1).toNat d1 (a / 8) e2.dead (by omega) (by rw [hln]; omega) hfl with ⟨g1, g2, g3⟩ | ⟨g1, g2, g3, M, g4⟩
      · rw [if_neg (by simp [g1])] at hL
        obtain ⟨ks, hr, hm, rfl⟩ := hL
        generalize (d1.flushes (a / 8) ((a + xs.length - 1) / 8 - a / 8 + 1).toNat).2 = d2 at *
        have hs2 := e2.trans g2
        unfold Dv.fenceR
        rw [hs2.dead, if_neg (by simp)]
        by_cases ha : d2.armed = 1
        · rw [if_pos ha]
          right
          refine ⟨rfl, fun h => by have := hs2.armed h; omega, hs2.n, ?_⟩
          exact (g3.half (g := updF f a xs) (fun k => .inr rfl)).at_ (fun _ => rfl)
        · rw [if_neg ha]
          left
          exact ⟨rfl, (hs2.trans (Same.tick hs2.dead)).alike (fences_alike _ _), (g3.at_ (e := d2.tick) (fun _ => rfl)).fences (by omega) hr hm⟩
      · rw [if_pos (by simp [g1])] at hL
        right
        rw [hL]
        exact ⟨g1, fun h => g2 (e2.armed h), g3.trans e2.n, g4.half (fun k => .inr rfl)⟩
    · rw [if_pos (by simp [e1])] at hL
      right
      rw [hL]
      exact ⟨e1, e2, e3, e4.half (fun k => updF_take f a xs j k)⟩

/-- What a crash leaves: all is fenced, each word as it stayed, or as it was on its way. -/
theorem crash_law {d : Dv} {f g : Int → Int} (H : Half d f g) {ks : List Int} (hr : Ris ks) (hm : ∀ k, k ∈ ks ↔ (d.cache k).isSome = true) (keep : List Bool) :
    ∃ f', Cl (d.crash ks keep) f' ∧ ∀ k, f' k = f k ∨ f' k = g k := by
  refine ⟨fun k => ((d.crashN ks keep ks.length).at_ k).stays, fun k => ⟨rfl, rfl, rfl⟩, fun k => ?_⟩
  have hk := H k
  show ((d.crashN ks keep ks.length).at_ k).stays = _ ∨ ((d.crashN ks keep ks.length).at_ k).stays = _
  by_cases hq : k ∈ ks
  · obtain ⟨q, hq2⟩ := List.mem_iff_getElem?.1 hq
    rw [crashN_idx d hr keep hq2]
    split
    · obtain ⟨x, hx⟩ := Option.isSome_iff_exists.1 ((hm k).1 hq)
      rw [hx, Option.getD_some]
      have hx' : (d.at_ k).cache = some x := hx
      generalize d.at_ k = V at *
      have hxx : x = V.holds := by unfold Vw.holds; rw [hx']; rfl
      have hst : (V.persist x).stays = x := by
        have hs0 : ∀ V : Vw, V.settle.stays = V.stays := fun V => by unfold Vw.settle; split <;> rfl
        unfold Vw.persist
        rw [hs0]
        unfold Vw.stays
        by_cases hv : x = 0 <;> simp [hv]
      rw [hst, hxx]
      exact hk.2
    · exact .inl hk.1
  · rw [crashN_far d ks keep hq]; exact .inl hk.1
theorem Cl.half {d : Dv} {f : Int → Int} (h : Cl d f) : Half d f f := fun k => ⟨(h k).2.2, .inl (by unfold Vw.holds; rw [(h k).1]; exact (h k).2.2)⟩
theorem Cl.holds {d : Dv} {f : Int → Int} (h : Cl d f) (k : Int) : d.holds k = f k := by
  have h1 := h k
  show (d.at_ k).holds = f k
  unfold Vw.holds
  rw [h1.1]; exact h1.2.2
theorem cl_new (n : Int) : Cl (Dv.new n) (fun _ => 0) := fun _ => ⟨rfl, rfl, rfl⟩
end Go.Proofs.Ytdnoniolpplgiaa
