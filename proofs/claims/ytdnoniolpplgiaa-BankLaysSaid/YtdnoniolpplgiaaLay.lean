/- Words that are laid on a device: a contract (package bank). -/
import Derived.Test.YtdnoniolpplgiaaStays
namespace Go.Proofs.Ytdnoniolpplgiaa
open Go.RowKit Go.Maps Go.Sort Go.Shelf

/-- A slice reads as these words. -/
def Words (w : World) (A : Option Addr) (n : Nat) (xs : List Int) : Prop :=
  xs.length = n ∧ (xs = [] ∨ ∃ b off, A = some ⟨b, off, none⟩ ∧ b < w.heap.size ∧ ∀ i, (h : i < xs.length) → w.cell? ⟨b, off + i, none⟩ = some (.int .u64 xs[i]))
theorem Words.below {w w' : World} {A : Option Addr} {n : Nat} {xs : List Int} (h : Words w A n xs) (hb : Below w.heap.size w w') : Words w' A n xs := by
  refine ⟨h.1, ?_⟩
  rcases h.2 with h | ⟨b, off, rfl, hl, hc⟩
  · exact .inl h
  · exact .inr ⟨b, off, rfl, Nat.lt_of_lt_of_le hl hb.size, fun i hi => (hb.cell hl).trans (hc i hi)⟩
theorem Words.kept {S : List Nat} {w w' : World} {A : Option Addr} {n : Nat} {xs : List Int} (h : Words w A n xs) (hk : Kept S w w') (hA : xs ≠ [] → ∀ a, A = some a → a.block ∉ S) : Words w' A n xs := by
  refine ⟨h.1, ?_⟩
  rcases h.2 with h | ⟨b, off, rfl, hl, hc⟩
  · exact .inl h
  · by_cases hx : xs = []
    · exact .inl hx
    · exact .inr ⟨b, off, rfl, Nat.lt_of_lt_of_le hl hk.size, fun i hi => (hk.cell (a := ⟨b, off + i, none⟩) hl (hA hx ⟨b, off, none⟩ rfl)).trans (hc i hi)⟩
theorem Words.at {w : World} {A : Option Addr} {n : Nat} {xs : List Int} (h : Words w A n xs) {i : Nat} (hi : i < n) :
    ∃ b off, A = some ⟨b, off, none⟩ ∧ b < w.heap.size ∧ ∃ x, xs[i]? = some x ∧ w.cell? ⟨b, off + i, none⟩ = some (.int .u64 x) := by
  have hx : i < xs.length := by rw [h.1]; exact hi
  rcases h.2 with h2 | ⟨b, off, rfl, hl, hc⟩
  · subst h2; simp at hx
  · exact ⟨b, off, rfl, hl, xs[i], List.getElem?_eq_getElem hx, hc i hx⟩

/-- Storing words one behind the other, till one fails. -/
def Dv.stores (d : Dv) (at_ : Int) : List Int → Int × Dv
  | [] => (0, d)
  | v :: l => if (d.store at_ v).1 ≠ 0 then d.store at_ v else (d.store at_ v).2.stores (at_ + 1) l
/-- Flushing so many lines, till one fails. -/
def Dv.flushes (d : Dv) (line : Int) : Nat → Int × Dv
  | 0 => (0, d)
  | n + 1 => if (d.flush line).1 ≠ 0 then d.flush line else (d.flush line).2.flushes (line + 1) n
theorem stores_snoc (l : List Int) : ∀ (d : Dv) (a v : Int), d.stores a (l ++ [v]) = if (d.stores a l).1 ≠ 0 then d.stores a l else (d.stores a l).2.store (a + l.length) v := by
  induction l with
  | nil =>
    intro d a v
    have e0 : d.stores a [] = (0, d) := rfl
    have e1 : d.stores a ([] ++ [v]) = if (d.store a v).1 ≠ 0 then d.store a v else (0, (d.store a v).2) := rfl
    have e2 : a + ((([] : List Int).length : Nat) : Int) = a := by simp
    rw [e1, e0, e2]
    by_cases h : (d.store a v).1 = 0
    · rw [if_neg (by simp [h]), if_neg (by simp)]; exact Prod.ext h.symm rfl
    · rw [if_pos h, if_neg (by simp)]
  | cons x l ih =>
    intro d a v
    rw [List.cons_append]
    unfold Dv.stores
    by_cases h : (d.store a x).1 ≠ 0
    · rw [if_pos h, if_pos h, if_pos h]
    · rw [if_neg h, if_neg h, ih, show a + 1 + (l.length : Int) = a + ((x :: l).length : Nat) by simp; omega]
theorem flushes_snoc (n : Nat) : ∀ (d : Dv) (a : Int), d.flushes a (n + 1) = if (d.flushes a n).1 ≠ 0 then d.flushes a n else (d.flushes a n).2.flush (a + n) := by
  induction n with
  | zero =>
    intro d a
    have e0 : d.flushes a 0 = (0, d) := rfl
    have e1 : d.flushes a (0 + 1) = if (d.flush a).1 ≠ 0 then d.flush a else (0, (d.flush a).2) := rfl
    have e2 : a + ((0 : Nat) : Int) = a := by simp
    rw [e1, e0, e2]
    by_cases h : (d.flush a).1 = 0
    · rw [if_neg (by simp [h]), if_neg (by simp)]; exact Prod.ext h.symm rfl
    · rw [if_pos h, if_neg (by simp)]
  | succ n ih =>
    intro d a
    rw [Dv.flushes]
    by_cases h : (d.flush a).1 ≠ 0
    · rw [if_pos h, Dv.flushes, if_pos h, if_pos h]
    · rw [if_neg h, ih, Dv.flushes, if_neg h, show a + 1 + (n : Int) = a + ((n + 1 : Nat) : Int) by omega]
theorem stores_stop (l k : List Int) : ∀ (d : Dv) (a : Int), (d.stores a l).1 ≠ 0 → d.stores a (l ++ k) = d.stores a l := by
  induction l with
  | nil => intro d a h; exact absurd rfl h
  | cons x l ih =>
    intro d a h
    rw [List.cons_append]
    unfold Dv.stores at h ⊢
    by_cases hx : (d.store a x).1 ≠ 0
    · rw [if_pos hx, if_pos hx]
    · rw [if_neg hx] at h
      rw [if_neg hx, if_neg hx]
      exact ih _ _ h
theorem flushes_stop (d : Dv) (a : Int) (n : Nat) (h : (d.flushes a n).1 ≠ 0) : ∀ k, d.flushes a (n + k) = d.flushes a n := by
  intro k
  induction k with
  | zero => rfl
  | succ k ih => rw [← Nat.add_assoc, flushes_snoc, ih, if_pos h]
/-- What Lay answers, and leaves. -/
def LayIs (d : Dv) (a : Int) (l : List Int) (r : Int × Dv) : Prop :=
  if l = [] then r = (0, d)
  else if (d.stores a l).1 ≠ 0 then r = d.stores a l
  else if ((d.stores a l).2.flushes (a / 8) ((a + l.length - 1) / 8 - a / 8 + 1).toNat).1 ≠ 0 then r = (d.stores a l).2.flushes (a / 8) ((a + l.length - 1) / 8 - a / 8 + 1).toNat
  else ∃ ks, Ris ks ∧ (∀ q, q ∈ ks ↔ (((d.stores a l).2.flushes (a / 8) ((a + l.length - 1) / 8 - a / 8 + 1).toNat).2.way q).isSome = true) ∧ r = ((d.stores a l).2.flushes (a / 8) ((a + l.length - 1) / 8 - a / 8 + 1).toNat).2.fenceR ks

/-- A device that has turned, since this world. -/
structure EX (w0 w : World) (t m c y : Nat) (T : List Int) (d : Dv) (N : Nat) : Prop where
  dev : DevIs w t m c y T d
  t64 : ∀ q ∈ T, W64 q
  few : T.length ≤ N ∧ d.events ≤ N
  kept : Kept [t, m, c, y] w0 w
theorem EX.dev' {w0 w w' : World} {t m c y : Nat} {T : List Int} {d : Dv} {N : Nat} (h : EX w0 w t m c y T d N) {T' : List Int} {d' : Dv} (hD : DevIs w' t m c y T' d') (hk : Kept [t, m, c, y] w w') (h64 : ∀ i ∈ T', W64 i) (hT : T'.length ≤ N + 1) (he : d'.events ≤ N + 1) : EX w0 w' t m c y T' d' (N + 1) :=
  ⟨hD, h64, ⟨hT, by omega⟩, h.kept.trans hk⟩
theorem EX.mono {w0 w : World} {t m c y : Nat} {T : List Int} {d : Dv} {N N' : Nat} (h : EX w0 w t m c y T d N) (hN : N ≤ N') : EX w0 w t m c y T d N' :=
  ⟨h.dev, h.t64, by have := h.few; omega, h.kept⟩

set_option maxRecDepth 100000 in
set_option maxHeartbeats 8000000 in
theorem lay_any {w : World} {t m c y : Nat} {T : List Int} {d : Dv} {N : Nat} (hE : EX w w t m c y T d N) {A : Option Addr} {n : Nat} {xs : List Int} (cap : Nat) (hW : Words w A n xs) (hA : xs ≠ [] → ∀ a, A = some a → a.block ∉ [t, m, c, y]) {at_ : Int} (h0 : 0 ≤ at_) (h1 : at_ < 100000000) (hn : n ≤ 5000) (hN : N ≤ 40000) :
    Calls Try.prog 43 #[.pointer (some ⟨t, 0, none⟩), .int .i64 at_, .slice A n cap] w fun e w' => ∃ T' r, e = .returned (.int .i64 r.1) ∧ LayIs d at_ xs r ∧ EX w w' t m c y T' r.2 (N + 2 * n + 10) := by
  have H := Lib.hid hE
  have HW := Lib.hid hW
  have HA := Lib.hid hA
  have hl := hW.1
  clear hE hW hA
  by_cases hz : n = 0
  · subst hz
    have hx : xs = [] := List.length_eq_zero_iff.1 hl
    have HXZ := Lib.hid hx
    clear hx
    go_enter Try.func43, Try.ntmps43
    go_wp2
    go_ret
    exact ⟨T, (0, d), rfl, by unfold LayIs; rw [if_pos HXZ.out], H.out.mono (by omega)⟩
  · have hne : xs ≠ [] := fun e => hz (by rw [← hl, e]; rfl)
    have HNE := Lib.hid hne
    clear hne
    have hzb : ((n : Int) == 0) = false := by simp [hz]
    go_enter Try.func43, Try.ntmps43
    go_wp2
    go_loopw [17] (fun u wr => ∃ j : Nat, j ≤ n ∧ u = .int .i64 j ∧ (d.stores at_ (xs.take j)).1 = 0 ∧ ∃ T', EX w wr t m c y T' (d.stores at_ (xs.take j)).2 (N + j)) (fun u _ => n - (intOf u).toNat)
    case atStart => exact ⟨0, Nat.zero_le _, rfl, rfl, T, H.out⟩
    case round =>
      obtain ⟨j, hj, rfl, hz0, T1, hE⟩ := hrel
      have HE := Lib.hid hE
      have HZ0 := Lib.hid hz0
      clear hE hz0
      by_cases hlt : j < n
      · obtain ⟨b, off, rfl, hbl, x, hxj, c0⟩ := (HW.out.kept HE.out.kept HA.out).at hlt
        have HS := Lib.hid (show d.stores at_ (xs.take (j + 1)) = (d.stores at_ (xs.take j)).2.store (at_ + j) x by rw [take_snoc hxj, stores_snoc, if_neg (by rw [HZ0.out]; simp), List.length_take, show ((min j xs.length : Nat) : Int) = j by omega])
        have hw64 : W64 (at_ + j) := by unfold W64; omega
        have HXJ := Lib.hid hxj
        clear hxj
        have hev := HE.out.few
        generalize hd1 : (d.stores at_ (xs.take j)).2 = d1 at *
        have HD1 := Lib.hid hd1
        clear hd1
        by_cases hr : (d1.store (at_ + j) x).1 = 0
        · have HR := Lib.hid hr
          clear hr
          go_wp2_with (go_at_call 17; refine (store_any HE.out.dev hw64 x (by omega) (by omega)).mono ?_; rintro e w9 ⟨rfl, hD, hk⟩; rw [HR.out]; have HE9 := Lib.hid (HE.out.dev' hD hk (fun q hq => by rcases List.mem_cons.1 hq with rfl | hq; (exact hw64); exact HE.out.t64 q hq) (by simp; omega) (store_ev (N := N + j) d1 (at_ + j) x (by omega))); clear hD hk)
          go_roundw
          case rel => exact ⟨j + 1, by omega, by go_num, by rw [HS.out]; exact HR.out, _, by rw [HS.out]; exact HE9.out⟩
          case measure => simp [intOf]; omega
        · have hcb : ((d1.store (at_ + j) x).1 != 0) = true := by simp [hr]
          have hcc : ((d1.store (at_ + j) x).1 == 0) = false := by simp [hr]
          have HLI := Lib.hid (show LayIs d at_ xs (d1.store (at_ + j) x) from by
            have hs : d.stores at_ xs = d1.store (at_ + j) x := by
              rw [← HS.out]
              conv => lhs; rw [← List.take_append_drop (j + 1) xs]
              exact stores_stop _ _ _ _ (by rw [HS.out]; exact hr)
            unfold LayIs
            rw [if_neg HNE.out, hs, if_pos hr])
          clear hr
          go_wp2_with (go_at_call 17; refine (store_any HE.out.dev hw64 x (by omega) (by omega)).mono ?_; rintro e w9 ⟨rfl, hD, hk⟩; have HE9 := Lib.hid (HE.out.dev' hD hk (fun q hq => by rcases List.mem_cons.1 hq with rfl | hq; (exact hw64); exact HE.out.t64 q hq) (by simp; omega) (store_ev (N := N + j) d1 (at_ + j) x (by omega))); clear hD hk)
          go_ret
          exact ⟨_, _, rfl, HLI.out, HE9.out.mono (by omega)⟩
      · obtain rfl : j = n := by omega
        have HTK := Lib.hid (show xs.take j = xs from by rw [← hl]; exact List.take_length)
        rw [HTK.out] at HE HZ0
        generalize hd2 : (d.stores at_ xs).2 = d2 at *
        have HD2 := Lib.hid hd2
        clear hd2 hlt hj HTK
        obtain ⟨Q, hQ⟩ : ∃ Q : Nat, (Q : Int) = (at_ + j - 1) / 8 - at_ / 8 + 1 := ⟨((at_ + j - 1) / 8 - at_ / 8 + 1).toNat, by omega⟩
        have HQ := Lib.hid (show Q = ((at_ + (xs.length : Nat) - 1) / 8 - at_ / 8 + 1).toNat by rw [hl]; omega)
        have HQ1 := Lib.hid hQ
        have hQn : Q ≤ j + 1 := by omega
        clear hQ
        go_wp2
        go_loopw [10] (fun u wr => ∃ q : Nat, q ≤ Q ∧ u = .int .i64 (at_ / 8 + q) ∧ (d2.flushes (at_ / 8) q).1 = 0 ∧ ∃ T', EX w wr t m c y T' (d2.flushes (at_ / 8) q).2 (N + j + q)) (fun u _ => Q - (intOf u - at_ / 8).toNat)
        case atStart => exact ⟨0, Nat.zero_le _, by simp, rfl, T1, HE.out⟩
        case round =>
          obtain ⟨q, hq, rfl, hz0, T3, hE⟩ := hrel
          have HE3 := Lib.hid hE
          have HZ3 := Lib.hid hz0
          clear hE hz0
          by_cases hlt : q < Q
          · have hle : at_ / 8 + q ≤ (at_ + j - 1) / 8 := by have := HQ1.out; omega
            have HF := Lib.hid (show d2.flushes (at_ / 8) (q + 1) = (d2.flushes (at_ / 8) q).2.flush (at_ / 8 + q) by rw [flushes_snoc, if_neg (by rw [HZ3.out]; simp)])
            have hev := HE3.out.few
            generalize hd3 : (d2.flushes (at_ / 8) q).2 = d3 at *
            have HD3 := Lib.hid hd3
            clear hd3
            by_cases hr : (d3.flush (at_ / 8 + q)).1 = 0
            · have HR := Lib.hid hr
              clear hr
              go_wp2_with (go_at_call 15; refine (flush_any HE3.out.dev (at_ / 8 + q) (by omega)).mono ?_; rintro e w9 ⟨rfl, hD, hk⟩; rw [HR.out]; have HE9 := Lib.hid (HE3.out.dev' hD hk HE3.out.t64 (by omega) (flush_ev (N := N + j + q) d3 (at_ / 8 + q) (by omega))); clear hD hk)
              go_roundw
              case rel => exact ⟨q + 1, by omega, by go_num, by rw [HF.out]; exact HR.out, _, by rw [HF.out]; exact HE9.out⟩
              case measure => simp [intOf]; omega
            · have hcb : ((d3.flush (at_ / 8 + q)).1 != 0) = true := by simp [hr]
              have hcc : ((d3.flush (at_ / 8 + q)).1 == 0) = false := by simp [hr]
              have HLI := Lib.hid (show LayIs d at_ xs (d3.flush (at_ / 8 + q)) from by
                have hs : d2.flushes (at_ / 8) Q = d3.flush (at_ / 8 + q) := by
                  rw [← HF.out, show Q = q + 1 + (Q - (q + 1)) by omega]
                  exact flushes_stop _ _ _ (by rw [HF.out]; exact hr) _
                unfold LayIs
                rw [if_neg HNE.out, if_neg (by rw [HZ0.out]; simp), ← HQ.out, HD2.out, hs, if_pos hr])
              clear hr
              go_wp2_with (go_at_call 15; refine (flush_any HE3.out.dev (at_ / 8 + q) (by omega)).mono ?_; rintro e w9 ⟨rfl, hD, hk⟩; have HE9 := Lib.hid (HE3.out.dev' hD hk HE3.out.t64 (by omega) (flush_ev (N := N + j + q) d3 (at_ / 8 + q) (by omega))); clear hD hk)
              go_ret
              exact ⟨_, _, rfl, HLI.out, HE9.out.mono (by omega)⟩
          · obtain rfl : q = Q := by omega
            have hle : ¬ at_ / 8 + q ≤ (at_ + j - 1) / 8 := by have := HQ1.out; omega
            have hev := HE3.out.few
            obtain ⟨_, ks, _, hr, hm, _⟩ := HE3.out.dev.my.size HE3.out.dev.ay
            have HR := Lib.hid hr
            have HM := Lib.hid hm
            have HLI := Lib.hid (show LayIs d at_ xs ((d2.flushes (at_ / 8) q).2.fenceR ks) from by
              unfold LayIs
              rw [if_neg HNE.out, if_neg (by rw [HZ0.out]; simp), ← HQ.out, HD2.out, if_neg (by rw [HZ3.out]; simp)]
              exact ⟨ks, hr, hm, rfl⟩)
            clear hr hm
            generalize hd3 : (d2.flushes (at_ / 8) q).2 = d3 at *
            clear hd3
            go_wp2_with (go_at_call 16; refine (fence_any HE3.out.dev HE3.out.t64 HR.out HM.out (by omega)).mono ?_; rintro e w11 ⟨rfl, hD, hk⟩; have HE9 := Lib.hid (HE3.out.dev' hD hk HE3.out.t64 (by omega) (fence_ev (N := N + j + q) d3 ks (by omega))); clear hD hk)
            go_ret
            exact ⟨_, _, rfl, HLI.out, HE9.out.mono (by omega)⟩
end Go.Proofs.Ytdnoniolpplgiaa
