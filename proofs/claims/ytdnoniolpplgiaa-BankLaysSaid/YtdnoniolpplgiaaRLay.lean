/- Words that are laid on the document's device: a contract; both devices stay alike (package sumpref04). -/
import Derived.Test.YtdnoniolpplgiaaLay
import Derived.Test.YtdnoniolpplgiaaRel3
namespace Go.Proofs.Ytdnoniolpplgiaa
open Go.RowKit Go.Maps Go.Sort Go.Shelf

def Rf.stores (x : Rf) (at_ : Int) : List Int → Int × Rf
  | [] => (0, x)
  | v :: l => if (x.store at_ v).1 ≠ 0 then x.store at_ v else (x.store at_ v).2.stores (at_ + 1) l
def Rf.flushes (x : Rf) (line : Int) : Nat → Int × Rf
  | 0 => (0, x)
  | n + 1 => if (x.flush line).1 ≠ 0 then x.flush line else (x.flush line).2.flushes (line + 1) n
theorem rstores_snoc (l : List Int) : ∀ (d : Rf) (a v : Int), d.stores a (l ++ [v]) = if (d.stores a l).1 ≠ 0 then d.stores a l else (d.stores a l).2.store (a + l.length) v := by
  induction l with
  | nil =>
    intro d a v
    have e0 : d.stores a [] = (0, d) := rfl
    have e1 : d.stores a ([] ++ [v]) = if (d.store a v).1 ≠ 0 then d.store a v else (0, (d.store a v).2) := rfl
    have e2 : a + ((([] : List Int).length : Nat) : Int) = a := by simp
    rw [e1, e0, e2]
    by_cases h : (d.store a v).1 = 0
    · rw [if_neg (by simp [h]), if_neg (by simp)]; exact Prod.ext h.symm rfl
    · rw [if_pos h, if_neg (by simp)]
  | cons x l ih =>
    intro d a v
    rw [List.cons_append]
    unfold Rf.stores
    by_cases h : (d.store a x).1 ≠ 0
    · rw [if_pos h, if_pos h, if_pos h]
    · rw [if_neg h, if_neg h, ih, show a + 1 + (l.length : Int) = a + ((x :: l).length : Nat) by simp; omega]
theorem rflushes_snoc (n : Nat) : ∀ (d : Rf) (a : Int), d.flushes a (n + 1) = if (d.flushes a n).1 ≠ 0 then d.flushes a n else (d.flushes a n).2.flush (a + n) := by
  induction n with
  | zero =>
    intro d a
    have e0 : d.flushes a 0 = (0, d) := rfl
    have e1 : d.flushes a (0 + 1) = if (d.flush a).1 ≠ 0 then d.flush a else (0, (d.flush a).2) := rfl
    have e2 : a + ((0 : Nat) : Int) = a := by simp
    rw [e1, e0, e2]
    by_cases h : (d.flush a).1 = 0
    · rw [if_neg (by simp [h]), if_neg (by simp)]; exact Prod.ext h.symm rfl
    · rw [if_pos h, if_neg (by simp)]
  | succ n ih =>
    intro d a
    rw [Rf.flushes]
    by_cases h : (d.flush a).1 ≠ 0
    · rw [if_pos h, Rf.flushes, if_pos h, if_pos h]
    · rw [if_neg h, ih, Rf.flushes, if_neg h, show a + 1 + (n : Int) = a + ((n + 1 : Nat) : Int) by omega]
theorem rstores_stop (l k : List Int) : ∀ (d : Rf) (a : Int), (d.stores a l).1 ≠ 0 → d.stores a (l ++ k) = d.stores a l := by
  induction l with
  | nil => intro d a h; exact absurd rfl h
  | cons x l ih =>
    intro d a h
    rw [List.cons_append]
    unfold Rf.stores at h ⊢
    by_cases hx : (d.store a x).1 ≠ 0
    · rw [if_pos hx, if_pos hx]
    · rw [if_neg hx] at h
      rw [if_neg hx, if_neg hx]
      exact ih _ _ h
theorem rflushes_stop (d : Rf) (a : Int) (n : Nat) (h : (d.flushes a n).1 ≠ 0) : ∀ k, d.flushes a (n + k) = d.flushes a n := by
  intro k
  induction k with
  | zero => rfl
  | succ k ih => rw [← Nat.add_assoc, rflushes_snoc, ih, if_pos h]
def linesOf (a : Int) (l : List Int) : Nat := ((a + l.length - 1) / 8 - a / 8 + 1).toNat
/-- What the document's Lay answers, and leaves. -/
def Rf.lay (x : Rf) (a : Int) (l : List Int) : Int × Rf :=
  if (x.stores a l).1 ≠ 0 then x.stores a l
  else if l = [] then (0, (x.stores a l).2)
  else if ((x.stores a l).2.flushes (a / 8) (linesOf a l)).1 ≠ 0 then (x.stores a l).2.flushes (a / 8) (linesOf a l)
  else ((x.stores a l).2.flushes (a / 8) (linesOf a l)).2.fence

theorem rel_stores (l : List Int) : ∀ {d : Dv} {x : Rf} (a : Int), Rel d x → (d.stores a l).1 = (x.stores a l).1 ∧ Rel (d.stores a l).2 (x.stores a l).2 := by
  induction l with
  | nil => intro d x a h; exact ⟨rfl, h⟩
  | cons v l ih =>
    intro d x a h
    obtain ⟨e1, e2⟩ := rel_store h a v
    unfold Dv.stores Rf.stores
    rw [e1]
    split
    · exact ⟨e1, e2⟩
    · exact ih _ e2
theorem rel_flushes (n : Nat) : ∀ {d : Dv} {x : Rf} (a : Int), Rel d x → (d.flushes a n).1 = (x.flushes a n).1 ∧ Rel (d.flushes a n).2 (x.flushes a n).2 := by
  induction n with
  | zero => intro d x a h; exact ⟨rfl, h⟩
  | succ n ih =>
    intro d x a h
    obtain ⟨e1, e2⟩ := rel_flush h a
    unfold Dv.flushes Rf.flushes
    rw [e1]
    split
    · exact ⟨e1, e2⟩
    · exact ih _ e2
theorem rel_lay {d : Dv} {x : Rf} (h : Rel d x) {a : Int} {l : List Int} {r : Int × Dv} (hL : LayIs d a l r) : r.1 = (x.lay a l).1 ∧ Rel r.2 (x.lay a l).2 := by
  unfold LayIs at hL
  unfold Rf.lay
  obtain ⟨e1, e2⟩ := rel_stores l a h
  by_cases hl : l = []
  · subst hl
    rw [if_pos rfl] at hL
    rw [hL, if_neg (by simp [Rf.stores]), if_pos rfl]
    exact ⟨rfl, e2⟩
  · rw [if_neg hl] at hL
    rw [e1] at hL
    split at hL
    · next h0 => rw [if_pos h0, hL]; exact ⟨e1, e2⟩
    · next h0 =>
      rw [if_neg h0, if_neg hl]
      obtain ⟨g1, g2⟩ := rel_flushes (linesOf a l) (a / 8) e2
      rw [show ((a + l.length - 1) / 8 - a / 8 + 1).toNat = linesOf a l from rfl, g1] at hL
      split at hL
      · next h1 => rw [if_pos h1, hL]; exact ⟨g1, g2⟩
      · next h1 =>
        rw [if_neg h1]
        obtain ⟨ks, hr, hm, rfl⟩ := hL
        exact rel_fence g2 hr hm

/-- The document's device has turned, since this world. -/
structure RX (w0 w : World) (s : Nat) (X0 X : Option Nat) (cap : Nat) (x : Rf) (N : Nat) : Prop where
  ref : RefIs w s X cap x
  kept : Kept (refB s X0) w0 w
  new : ∀ q ∈ refB s X, q ∈ refB s X0 ∨ w0.heap.size ≤ q
  few : x.ws.length ≤ N ∧ x.events ≤ N
  ats : ∀ y ∈ x.ws, 0 ≤ y.at_ ∧ y.at_ < 33554432
section
variable {w0 w w' : World} {s cap cap' N : Nat} {X0 X X' : Option Nat} {x x' : Rf}
theorem RX.turn (h : RX w0 w s X0 X cap x N) (hR : RefIs w' s X' cap' x') (hk : Kept (refB s X) w w') (hq : ∀ q ∈ refB s X', q ∈ refB s X ∨ w.heap.size ≤ q) (hw : x'.ws.length ≤ N + 1 ∧ x'.events ≤ N + 1 ∧ ∀ y ∈ x'.ws, 0 ≤ y.at_ ∧ y.at_ < 33554432) : RX w0 w' s X0 X' cap' x' (N + 1) :=
  ⟨hR, h.kept.trans' hk h.new, fun q hm => by rcases hq q hm with e | e; (exact h.new q e); exact .inr (Nat.le_trans h.kept.size e), ⟨hw.1, by have := hw.2.1; omega⟩, hw.2.2⟩
theorem RX.mono {N' : Nat} (h : RX w0 w s X0 X cap x N) (hN : N ≤ N') : RX w0 w s X0 X cap x N' := ⟨h.ref, h.kept, h.new, by have := h.few; omega, h.ats⟩
theorem RX.flushX (h : RX w0 w s X0 X cap x N) (i : Int) : (x.flush i).2.ws.length ≤ N + 1 ∧ (x.flush i).2.events ≤ N + 1 ∧ ∀ z ∈ (x.flush i).2.ws, 0 ≤ z.at_ ∧ z.at_ < 33554432 := by
  have hf := h.few
  unfold Rf.flush
  split
  · exact ⟨by have := hf.1; show x.ws.length ≤ _; omega, by have := hf.2; show x.events ≤ _; omega, h.ats⟩
  · split
    · exact ⟨by have := hf.1; show x.ws.length ≤ _; omega, by have := hf.2; show x.events ≤ _; omega, h.ats⟩
    · refine ⟨by show (x.ws.mapIdx _).length ≤ _; rw [List.length_mapIdx]; omega, by show x.events + 1 ≤ _; omega, ats_mapIdx h.ats (fun _ z => send_at i z)⟩
theorem RX.storeX (h : RX w0 w s X0 X cap x N) (i v : Int) : (x.store i v).2.ws.length ≤ N + 1 ∧ (x.store i v).2.events ≤ N + 1 ∧ ∀ z ∈ (x.store i v).2.ws, 0 ≤ z.at_ ∧ z.at_ < 33554432 := by
  have hf := h.few
  have hnb := h.ref.nb
  unfold Rf.store
  by_cases hb : faultD x.dead i x.n ≠ 0
  · rw [if_pos hb]; exact ⟨by have := hf.1; show x.ws.length ≤ _; omega, by have := hf.2; show x.events ≤ _; omega, h.ats⟩
  · rw [if_neg hb]
    obtain ⟨_, h0, h1⟩ := fault_ok (show faultD x.dead i x.n = 0 by simpa using hb)
    split
    · exact ⟨by have := hf.1; show x.ws.length ≤ _; omega, by have := hf.2; show x.events ≤ _; omega, h.ats⟩
    · refine ⟨?_, by show x.events + 1 ≤ _; omega, ats_put (x := x.tick) h.ats h0 (by omega)⟩
      show ((placeW x.ws i).modify _ _).length ≤ _
      rw [List.length_modify]
      have := placeW_len x.ws i
      omega
theorem RX.fenceX (h : RX w0 w s X0 X cap x N) : x.fence.2.ws.length ≤ N + 1 ∧ x.fence.2.events ≤ N + 1 ∧ ∀ z ∈ x.fence.2.ws, 0 ≤ z.at_ ∧ z.at_ < 33554432 := by
  have hf := h.few
  unfold Rf.fence
  split
  · exact ⟨by have := hf.1; show x.ws.length ≤ _; omega, by have := hf.2; show x.events ≤ _; omega, h.ats⟩
  · split
    · exact ⟨by have := hf.1; show x.ws.length ≤ _; omega, by have := hf.2; show x.events ≤ _; omega, h.ats⟩
    · refine ⟨by show (x.ws.mapIdx _).length ≤ _; rw [List.length_mapIdx]; omega, by show x.events + 1 ≤ _; omega, ats_mapIdx h.ats (fun _ z => fence_at z)⟩

set_option maxRecDepth 100000 in
set_option maxHeartbeats 8000000 in
theorem rlay_any (hE : RX w w s X X cap x N) {A : Option Addr} {n : Nat} {xs : List Int} (c : Nat) (hW : Words w A n xs) (hA : xs ≠ [] → ∀ a, A = some a → a.block ∉ refB s X) {at_ : Int} (h0 : 0 ≤ at_) (h1 : at_ < 100000000) (hn : n ≤ 1000) (hN : N ≤ 3000) :
    Calls Try.prog 44 #[.pointer (some ⟨s, 0, none⟩), .int .i64 at_, .slice A n c] w fun e w' => ∃ X' cap', e = .returned (.int .i64 (x.lay at_ xs).1) ∧ RX w w' s X X' cap' (x.lay at_ xs).2 (N + 2 * n + 10) := by
  have H := Lib.hid hE
  have HW := Lib.hid hW
  have HA := Lib.hid hA
  have hl := hW.1
  clear hE hW hA
  go_enter Try.func44, Try.ntmps44
  go_wp2
  go_loopw [14] (fun u wr => ∃ j : Nat, j ≤ n ∧ u = .int .i64 j ∧ (x.stores at_ (xs.take j)).1 = 0 ∧ ∃ X' cap', RX w wr s X X' cap' (x.stores at_ (xs.take j)).2 (N + j)) (fun u _ => n - (intOf u).toNat)
  case atStart => exact ⟨0, Nat.zero_le _, rfl, rfl, X, cap, H.out⟩
  case round =>
    obtain ⟨j, hj, rfl, hz0, X1, cap1, hE⟩ := hrel
    have HE := Lib.hid hE
    have HZ0 := Lib.hid hz0
    clear hE hz0
    by_cases hlt : j < n
    · obtain ⟨b, off, rfl, hbl, v, hvj, c0⟩ := (HW.out.kept HE.out.kept HA.out).at hlt
      have HS := Lib.hid (show x.stores at_ (xs.take (j + 1)) = (x.stores at_ (xs.take j)).2.store (at_ + j) v by rw [take_snoc hvj, rstores_snoc, if_neg (by rw [HZ0.out]; simp), List.length_take, show ((min j xs.length : Nat) : Int) = j by omega])
      have hev := HE.out.few
      clear hvj
      generalize hx1 : (x.stores at_ (xs.take j)).2 = x1 at *
      have HX1 := Lib.hid hx1
      clear hx1
      by_cases hr : (x1.store (at_ + j) v).1 = 0
      · have HR := Lib.hid hr
        clear hr
        go_wp2_with (go_at_call 62; refine (rstore_any HE.out.ref (at_ + j) v (by omega) (by omega)).mono ?_; rintro e w9 ⟨X2, cap2, rfl, hR, hk, hq⟩; rw [HR.out]; have HE9 := Lib.hid (HE.out.turn hR hk hq (HE.out.storeX (at_ + j) v)); clear hR hk hq)
        go_roundw
        case rel => exact ⟨j + 1, by omega, by go_num, by rw [HS.out]; exact HR.out, X2, cap2, by rw [HS.out]; exact HE9.out⟩
        case measure => simp [intOf]; omega
      · have hcb : ((x1.store (at_ + j) v).1 != 0) = true := by simp [hr]
        have hcc : ((x1.store (at_ + j) v).1 == 0) = false := by simp [hr]
        have HLI := Lib.hid (show x.lay at_ xs = x1.store (at_ + j) v from by
          have hs : x.stores at_ xs = x1.store (at_ + j) v := by
            rw [← HS.out]
            conv => lhs; rw [← List.take_append_drop (j + 1) xs]
            exact rstores_stop _ _ _ _ (by rw [HS.out]; exact hr)
          unfold Rf.lay
          rw [hs, if_pos hr])
        clear hr
        go_wp2_with (go_at_call 62; refine (rstore_any HE.out.ref (at_ + j) v (by omega) (by omega)).mono ?_; rintro e w9 ⟨X2, cap2, rfl, hR, hk, hq⟩; have HE9 := Lib.hid (HE.out.turn hR hk hq (HE.out.storeX (at_ + j) v)); clear hR hk hq)
        go_ret
        exact ⟨X2, cap2, by rw [HLI.out]; rfl, by rw [HLI.out]; exact HE9.out.mono (by omega)⟩
    · obtain rfl : j = n := by omega
      have HTK := Lib.hid (show xs.take j = xs from by rw [← hl]; exact List.take_length)
      rw [HTK.out] at HE HZ0
      by_cases hzz : j = 0
      · subst hzz
        have hx : xs = [] := List.length_eq_zero_iff.1 hl
        have HLI := Lib.hid (show x.lay at_ xs = (0, (x.stores at_ xs).2) from by unfold Rf.lay; rw [if_neg (by rw [HZ0.out]; simp), if_pos hx])
        clear hx
        go_wp2
        go_ret
        exact ⟨X1, cap1, by rw [HLI.out]; rfl, by rw [HLI.out]; exact HE.out.mono (by omega)⟩
      · have HNE := Lib.hid (show xs ≠ [] from fun e => hzz (by rw [← hl, e]; rfl))
        have hzb : ((j : Int) == 0) = false := by simp [hzz]
        generalize hx2 : (x.stores at_ xs).2 = x2 at *
        have HX2 := Lib.hid hx2
        clear hx2 hlt hj HTK
        obtain ⟨Q, hQ⟩ : ∃ Q : Nat, (Q : Int) = (at_ + j - 1) / 8 - at_ / 8 + 1 := ⟨((at_ + j - 1) / 8 - at_ / 8 + 1).toNat, by omega⟩
        have HQ := Lib.hid (show Q = linesOf at_ xs by unfold linesOf; rw [hl]; omega)
        have HQ1 := Lib.hid hQ
        have hQn : Q ≤ j + 1 := by omega
        clear hQ
        go_wp2
        go_loopw [10] (fun u wr => ∃ q : Nat, q ≤ Q ∧ u = .int .i64 (at_ / 8 + q) ∧ (x2.flushes (at_ / 8) q).1 = 0 ∧ ∃ X' cap', RX w wr s X X' cap' (x2.flushes (at_ / 8) q).2 (N + j + q)) (fun u _ => Q - (intOf u - at_ / 8).toNat)
        case atStart => exact ⟨0, Nat.zero_le _, by simp, rfl, X1, cap1, HE.out⟩
        case round =>
          obtain ⟨q, hq, rfl, hz0, X3, cap3, hE⟩ := hrel
          have HE3 := Lib.hid hE
          have HZ3 := Lib.hid hz0
          clear hE hz0
          by_cases hlt : q < Q
          · have hle : at_ / 8 + q ≤ (at_ + j - 1) / 8 := by have := HQ1.out; omega
            have HF := Lib.hid (show x2.flushes (at_ / 8) (q + 1) = (x2.flushes (at_ / 8) q).2.flush (at_ / 8 + q) by rw [rflushes_snoc, if_neg (by rw [HZ3.out]; simp)])
            have hev := HE3.out.few
            generalize hx3 : (x2.flushes (at_ / 8) q).2 = x3 at *
            have HX3 := Lib.hid hx3
            clear hx3
            by_cases hr : (x3.flush (at_ / 8 + q)).1 = 0
            · have HR := Lib.hid hr
              clear hr
              go_wp2_with (go_at_call 58; refine (rflush_any HE3.out.ref (at_ / 8 + q) HE3.out.ats (by omega)).mono ?_; rintro e w9 ⟨X4, cap4, rfl, hR, hk, hq⟩; rw [HR.out]; have HE9 := Lib.hid (HE3.out.turn hR hk hq (HE3.out.flushX (at_ / 8 + q))); clear hR hk hq)
              go_roundw
              case rel => exact ⟨q + 1, by omega, by go_num, by rw [HF.out]; exact HR.out, X4, cap4, by rw [HF.out]; exact HE9.out⟩
              case measure => simp [intOf]; omega
            · have hcb : ((x3.flush (at_ / 8 + q)).1 != 0) = true := by simp [hr]
              have hcc : ((x3.flush (at_ / 8 + q)).1 == 0) = false := by simp [hr]
              have HLI := Lib.hid (show x.lay at_ xs = x3.flush (at_ / 8 + q) from by
                have hs : x2.flushes (at_ / 8) Q = x3.flush (at_ / 8 + q) := by
                  rw [← HF.out, show Q = q + 1 + (Q - (q + 1)) by omega]
                  exact rflushes_stop _ _ _ (by rw [HF.out]; exact hr) _
                unfold Rf.lay
                rw [if_neg (by rw [HZ0.out]; simp), if_neg HNE.out, ← HQ.out, HX2.out, hs, if_pos hr])
              clear hr
              go_wp2_with (go_at_call 58; refine (rflush_any HE3.out.ref (at_ / 8 + q) HE3.out.ats (by omega)).mono ?_; rintro e w9 ⟨X4, cap4, rfl, hR, hk, hq⟩; have HE9 := Lib.hid (HE3.out.turn hR hk hq (HE3.out.flushX (at_ / 8 + q))); clear hR hk hq)
              go_ret
              exact ⟨X4, cap4, by rw [HLI.out]; rfl, by rw [HLI.out]; exact HE9.out.mono (by omega)⟩
          · obtain rfl : q = Q := by omega
            have hle : ¬ at_ / 8 + q ≤ (at_ + j - 1) / 8 := by have := HQ1.out; omega
            have hev := HE3.out.few
            have HLI := Lib.hid (show x.lay at_ xs = (x2.flushes (at_ / 8) q).2.fence from by
              unfold Rf.lay
              rw [if_neg (by rw [HZ0.out]; simp), if_neg HNE.out, ← HQ.out, HX2.out, if_neg (by rw [HZ3.out]; simp)])
            generalize hx3 : (x2.flushes (at_ / 8) q).2 = x3 at *
            clear hx3
            go_wp2_with (go_at_call 59; refine (rfence_any HE3.out.ref (by omega)).mono ?_; rintro e w11 ⟨X4, cap4, rfl, hR, hk, hq⟩; have HE9 := Lib.hid (HE3.out.turn hR hk hq HE3.out.fenceX); clear hR hk hq)
            go_ret
            exact ⟨X4, cap4, by rw [HLI.out]; rfl, by rw [HLI.out]; exact HE9.out.mono (by omega)⟩
end
end Go.Proofs.Ytdnoniolpplgiaa
