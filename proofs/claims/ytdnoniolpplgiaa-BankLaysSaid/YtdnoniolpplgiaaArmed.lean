/- The law PmemArmed, walked. -/
import Derived.Test.YtdnoniolpplgiaaDeeds
namespace Go.Proofs.Ytdnoniolpplgiaa
open Go.RowKit Go.Maps Go.Sort Go.Shelf

/-- The first example, plainly. -/
def a0 : Dv := Dv.new 64
def a1 : Dv := (a0.store 3 7).2
def a2 : Dv := (a1.flush 0).2
def a3 : Dv := (a2.fenceR [3]).2
def a4 : Dv := (a3.store 4 8).2
def a5 : Dv := a4.crash [4] []
theorem a_store : (a0.store 3 7).1 = 0 := by kernel_rfl
theorem a_flush : (a1.flush 0).1 = 0 := by kernel_rfl
theorem a_fence : (a2.fenceR [3]).1 = 0 := by kernel_rfl
theorem a_store2 : (a3.store 4 8).1 = 0 := by kernel_rfl
theorem a_three : a5.stays 3 = 7 := by kernel_rfl
theorem a_four : a5.stays 4 = 0 := by kernel_rfl
theorem a_way : a2.way = setF (fun _ => none) 3 7 := by kernel_rfl
theorem a_cache : a4.cache = setF (delF (setF (fun _ => none) 3 7) 3) 4 8 := by kernel_rfl
theorem a_ev0 : a0.events < 900000000 := by decide
theorem a_ev1 : a1.events = 1 := by kernel_rfl
theorem a_ev2 : a2.events = 2 := by kernel_rfl
theorem a_ev3 : a3.events = 3 := by kernel_rfl
theorem a_keys : ∀ k, k ∈ [(3 : Int)] ↔ (a2.way k).isSome = true := by
  intro k
  rw [a_way, List.mem_singleton]
  unfold setF
  by_cases h : k = 3 <;> simp [h]
theorem a_dirty : ∀ k, k ∈ [(4 : Int)] ↔ (a4.cache k).isSome = true := by
  intro k
  rw [a_cache, List.mem_singleton]
  unfold setF delF
  by_cases h : k = 4
  · simp [h]
  · by_cases h3 : k = 3 <;> simp [h, h3]
theorem t43 : ∀ i ∈ [(4 : Int), 3], W64 i := by intro i hi; simp at hi; unfold W64; omega
theorem t3 : ∀ i ∈ [(3 : Int)], W64 i := by intro i hi; simp at hi; unfold W64; omega

set_option maxRecDepth 100000 in
set_option maxHeartbeats 4000000 in
theorem awake_any (w : World) : Calls Try.prog 11 #[] w fun e w' => e = .returned (.bool true) ∧ Below w.heap.size w w' := by
  have h3 : W64 3 := by unfold W64; omega
  have h4 : W64 4 := by unfold W64; omega
  go_enter Try.func11, Try.ntmps11
  go_wp2_with (first
    | (go_at_call 13; refine (new_any w 64).mono ?_; rintro e w1 ⟨t, m, c, y, rfl, hD0, hb1, hlo⟩; have HD0 := Lib.hid (show DevIs w1 t m c y [] a0 from hD0); have HLO := Lib.hid hlo; clear hD0 hlo)
    | (go_at_call 17; first
      | ((with_reducible refine (store_any HD0.out h3 7 a_ev0 (by simp)).mono ?_); rintro e w2 ⟨rfl, hD1, hk1⟩; rw [a_store]; have HD1 := Lib.hid (show DevIs w2 t m c y [3] a1 from hD1); have HK1 := Lib.hid hk1; clear hD1 hk1 HD0)
      | ((with_reducible refine (store_any HD3.out h4 8 (by rw [a_ev3]; omega) (by simp)).mono ?_); rintro e w5 ⟨rfl, hD4, hk4⟩; rw [a_store2]; have HD4 := Lib.hid (show DevIs w5 t m c y [4, 3] a4 from hD4); have HK4 := Lib.hid (HK3.out.trans hk4); clear hD4 hk4))
    | (go_at_call 15; refine (flush_any HD1.out 0 (by rw [a_ev1]; omega)).mono ?_; rintro e w3 ⟨rfl, hD2, hk2⟩; rw [a_flush]; have HD2 := Lib.hid (show DevIs w3 t m c y [3] a2 from hD2); have HK2 := Lib.hid (HK1.out.trans hk2); clear hD2 hk2)
    | (go_at_call 16; refine (fence_any HD2.out t3 (ks := [3]) (List.pairwise_singleton _ _) a_keys (by rw [a_ev2]; omega)).mono ?_; rintro e w4 ⟨rfl, hD3, hk3⟩; rw [a_fence]; have HD3 := Lib.hid (show DevIs w4 t m c y [3] a3 from hD3); have HK3 := Lib.hid (HK2.out.trans hk3); clear hD3 hk3)
    | (go_at_call 20; refine (crash_any HD4.out t43 (ks := [4]) (List.pairwise_singleton _ _) a_dirty (keep := []) 0 ⟨rfl, .inl rfl⟩ (fun h => absurd rfl h)).mono ?_; rintro e w6 ⟨c', y', rfl, hD5, hk5, _, _⟩; have HD5 := Lib.hid (show DevIs w6 t m c' y' [4, 3] a5 from hD5); have HK5 := Lib.hid (HK4.out.trans hk5); clear hD5 hk5)
    | (go_at_call 24; first
      | ((with_reducible refine (stays_any HD5.out h3).mono ?_); rintro e w' ⟨rfl, hw⟩; rw [hw, a_three]; clear hw w')
      | ((with_reducible refine (stays_any HD5.out h4).mono ?_); rintro e w' ⟨rfl, hw⟩; rw [hw, a_four]; clear hw w')))
  go_ret
  exact ⟨rfl, Kept.below hb1 HK5.out HLO.out hb1.size⟩

/-- Alike but for the maps. -/
structure Alike4 (d e : Dv) : Prop where
  n : e.n = d.n
  armed : e.armed = d.armed
  dead : e.dead = d.dead
  events : e.events = d.events
theorem Alike4.refl (d : Dv) : Alike4 d d := ⟨rfl, rfl, rfl, rfl⟩
theorem Alike4.trans {a b c : Dv} (h : Alike4 a b) (k : Alike4 b c) : Alike4 a c := ⟨k.n.trans h.n, k.armed.trans h.armed, k.dead.trans h.dead, k.events.trans h.events⟩
theorem settle_alike (d : Dv) (i : Int) : Alike4 d (d.settle i) := by
  unfold Dv.settle
  split <;> exact ⟨rfl, rfl, rfl, rfl⟩
theorem put_alike (d : Dv) (i v : Int) : Alike4 d (d.put i v) := Alike4.trans (b := { d with cache := setF d.cache i v }) ⟨rfl, rfl, rfl, rfl⟩ (settle_alike _ i)
theorem persist_alike (d : Dv) (i v : Int) : Alike4 d (d.persist i v) := Alike4.trans (b := { d with way := delF d.way i, media := if v = 0 then delF d.media i else setF d.media i v }) ⟨rfl, rfl, rfl, rfl⟩ (settle_alike _ i)
theorem sends_alike (l : List Int) : ∀ d : Dv, Alike4 d (d.sends l) := by
  induction l with
  | nil => intro d; exact Alike4.refl d
  | cons x l ih => intro d; exact Alike4.trans (b := d.send x) ⟨rfl, rfl, rfl, rfl⟩ (ih (d.send x))
theorem fences_alike (l : List Int) : ∀ d : Dv, Alike4 d (d.fences l) := by
  induction l with
  | nil => intro d; exact Alike4.refl d
  | cons x l ih => intro d; exact (persist_alike d x _).trans (ih (d.fence x))

/-- A device whose power fails at the n-th event, behind j of them. -/
structure AI (d : Dv) (n j : Int) : Prop where
  w : d.n = 512
  dead : d.dead = decide (n ≤ j)
  ev : d.events = min j (n - 1)
  ar : j < n → d.armed = n - j

def okB (n j : Int) : Int := if j + 1 < n then 0 else 5
theorem ai_go {d e : Dv} {n j : Int} (h : AI d n j) (hj : j < n) (ha : d.armed ≠ 1) (hs : Alike4 d.tick e) : okB n j = 0 ∧ AI e n (j + 1) := by
  have h1 := h.ar hj
  have h2 := h.ev
  have h4 : j + 1 < n := by omega
  refine ⟨if_pos h4, ⟨hs.n.trans h.w, ?_, ?_, fun _ => ?_⟩⟩
  · rw [hs.dead]
    show d.dead = _
    rw [h.dead, decide_eq_decide]; omega
  · rw [hs.events]
    show d.events + 1 = _
    omega
  · rw [hs.armed]
    show (if 0 < d.armed then d.armed - 1 else d.armed) = _
    rw [if_pos (by omega)]; omega
theorem ai_cut {d : Dv} {n j : Int} (h : AI d n j) (hj : j < n) (ha : d.armed = 1) : okB n j = 5 ∧ AI d.cut n (j + 1) := by
  have h1 := h.ar hj
  have h2 := h.ev
  refine ⟨if_neg (by omega), ⟨h.w, ?_, ?_, fun _ => by omega⟩⟩
  · show true = _
    rw [eq_comm, decide_eq_true_iff]; omega
  · show d.events = _
    omega
theorem ai_dead {d : Dv} {n j : Int} (h : AI d n j) (hj : n ≤ j) : okB n j = 5 ∧ AI d n (j + 1) := by
  have h2 := h.ev
  have h3 := h.dead
  rw [decide_eq_true hj] at h3
  refine ⟨if_neg (by omega), ⟨h.w, ?_, by omega, fun _ => by omega⟩⟩
  rw [h3, eq_comm, decide_eq_true_iff]; omega
theorem ai_alive {d : Dv} {n j : Int} (h : AI d n j) (hj : j < n) : d.dead = false := by rw [h.dead, decide_eq_false_iff_not]; omega
theorem ai_gone {d : Dv} {n j : Int} (h : AI d n j) (hj : n ≤ j) : d.dead = true := by rw [h.dead, decide_eq_true_iff]; exact hj
theorem fault_in {i many : Int} (h0 : 0 ≤ i) (h1 : i < many) : faultD false i many = 0 := by unfold faultD; rw [if_neg (by simp), if_neg (by omega)]
theorem fault_dead (i many : Int) : faultD true i many = 5 := rfl

theorem ai_store {d : Dv} {n j i v : Int} (h : AI d n j) (h0 : 0 ≤ i) (h1 : i < 64) : (d.store i v).1 = okB n j ∧ AI (d.store i v).2 n (j + 1) := by
  by_cases hj : j < n
  · have hf : faultD d.dead i d.n = 0 := by rw [ai_alive h hj, h.w]; exact fault_in h0 (by omega)
    by_cases ha : d.armed = 1
    · rw [store_cut v hf ha]; exact ⟨(ai_cut h hj ha).1.symm, (ai_cut h hj ha).2⟩
    · have := ai_go h hj ha (put_alike d.tick i v)
      rw [store_go v hf ha]; exact ⟨this.1.symm, this.2⟩
  · have hf : faultD d.dead i d.n = 5 := by rw [ai_gone h (by omega)]; rfl
    rw [store_bad v (by rw [hf]; omega), hf]
    exact ⟨(ai_dead h (by omega)).1.symm, (ai_dead h (by omega)).2⟩
theorem ai_flush {d : Dv} {n j i : Int} (h : AI d n j) (h0 : 0 ≤ i) (h1 : i < 64) : (d.flush i).1 = okB n j ∧ AI (d.flush i).2 n (j + 1) := by
  have hl : d.lines = 64 := by unfold Dv.lines; rw [h.w]; rfl
  by_cases hj : j < n
  · have hf : faultD d.dead i d.lines = 0 := by rw [ai_alive h hj, hl]; exact fault_in h0 (by omega)
    by_cases ha : d.armed = 1
    · rw [flush_cut hf ha]; exact ⟨(ai_cut h hj ha).1.symm, (ai_cut h hj ha).2⟩
    · have := ai_go h hj ha (sends_alike (lineN d i 8) d.tick)
      rw [flush_go hf ha]; exact ⟨this.1.symm, this.2⟩
  · have hf : faultD d.dead i d.lines = 5 := by rw [ai_gone h (by omega)]; rfl
    rw [flush_bad (by rw [hf]; omega), hf]
    exact ⟨(ai_dead h (by omega)).1.symm, (ai_dead h (by omega)).2⟩
theorem ai_fence {d : Dv} {n j : Int} (ks : List Int) (h : AI d n j) : (d.fenceR ks).1 = okB n j ∧ AI (d.fenceR ks).2 n (j + 1) := by
  unfold Dv.fenceR
  by_cases hj : j < n
  · rw [ai_alive h hj, if_neg (by simp)]
    by_cases ha : d.armed = 1
    · rw [if_pos ha]; exact ⟨(ai_cut h hj ha).1.symm, (ai_cut h hj ha).2⟩
    · have := ai_go h hj ha (fences_alike ks d.tick)
      rw [if_neg ha]; exact ⟨this.1.symm, this.2⟩
  · rw [ai_gone h (by omega), if_pos rfl]
    exact ⟨(ai_dead h (by omega)).1.symm, (ai_dead h (by omega)).2⟩

/-- What the law knows between two rounds. -/
structure AR (w0 w : World) (t m c y : Nat) (n : Int) (j : Nat) (T : List Int) (d : Dv) : Prop where
  dev : DevIs w t m c y T d
  ai : AI d n j
  few : T.length ≤ j
  t64 : ∀ i ∈ T, W64 i
  lo : ∀ i ∈ [t, m, c, y], w0.heap.size ≤ i
  bel : Below w0.heap.size w0 w
theorem AR.below {w0 w w' : World} {t m c y : Nat} {n : Int} {j : Nat} {T : List Int} {d : Dv} (h : AR w0 w t m c y n j T d) (hb : Below w.heap.size w w') : AR w0 w' t m c y n j T d :=
  ⟨h.dev.below hb, h.ai, h.few, h.t64, h.lo, h.bel.trans (hb.mono h.bel.size)⟩
theorem AR.next {w0 w w' : World} {t m c y : Nat} {n : Int} {j : Nat} {T T' : List Int} {d d' : Dv} (h : AR w0 w t m c y n j T d) (hk : Kept [t, m, c, y] w w') (hd : DevIs w' t m c y T' d') (ha : AI d' n (j + 1)) (hf : T'.length ≤ j + 1) (h64 : ∀ i ∈ T', W64 i) : AR w0 w' t m c y n (j + 1) T' d' :=
  ⟨hd, ha, hf, h64, h.lo, Kept.below h.bel hk h.lo h.bel.size⟩

/-- A deed's answer. -/
def ArS (w0 : World) (t m c y : Nat) (n : Int) (j : Nat) (e : Ending) (w' : World) : Prop := ∃ T d, e = .returned (.int .i64 (okB n j)) ∧ AR w0 w' t m c y n (j + 1) T d
theorem AR.store {w0 w : World} {t m c y : Nat} {n : Int} {j : Nat} {T : List Int} {d : Dv} (h : AR w0 w t m c y n j T d) (hn : n ≤ 40) (hj : j < 100) {i : Int} (h0 : 0 ≤ i) (h1 : i < 64) (v : Int) : Calls Try.prog 17 #[.pointer (some ⟨t, 0, none⟩), .int .i64 i, .int .u64 v] w (ArS w0 t m c y n j) := by
  have hw : W64 i := by unfold W64; omega
  have he := h.ai.ev
  have hf := h.few
  refine (store_any h.dev hw v (by omega) (by omega)).mono ?_
  rintro e w' ⟨rfl, hD, hk⟩
  obtain ⟨r1, r2⟩ := ai_store (v := v) h.ai h0 h1
  exact ⟨_, _, by rw [r1], h.next hk hD r2 (by simp; omega) (fun k hk => by rcases List.mem_cons.1 hk with rfl | hk; (exact hw); exact h.t64 k hk)⟩
theorem AR.flush {w0 w : World} {t m c y : Nat} {n : Int} {j : Nat} {T : List Int} {d : Dv} (h : AR w0 w t m c y n j T d) (hn : n ≤ 40) {i : Int} (h0 : 0 ≤ i) (h1 : i < 64) : Calls Try.prog 15 #[.pointer (some ⟨t, 0, none⟩), .int .i64 i] w (ArS w0 t m c y n j) := by
  have he := h.ai.ev
  refine (flush_any h.dev i (by omega)).mono ?_
  rintro e w' ⟨rfl, hD, hk⟩
  obtain ⟨r1, r2⟩ := ai_flush h.ai h0 h1
  exact ⟨_, _, by rw [r1], h.next hk hD r2 (by have := h.few; omega) h.t64⟩
theorem AR.fence {w0 w : World} {t m c y : Nat} {n : Int} {j : Nat} {T : List Int} {d : Dv} (h : AR w0 w t m c y n j T d) (hn : n ≤ 40) : Calls Try.prog 16 #[.pointer (some ⟨t, 0, none⟩)] w (ArS w0 t m c y n j) := by
  have he := h.ai.ev
  obtain ⟨D, ks, _, hr, hm, _⟩ := h.dev.my.size h.dev.ay
  refine (fence_any h.dev h.t64 hr hm (by omega)).mono ?_
  rintro e w' ⟨rfl, hD, hk⟩
  obtain ⟨r1, r2⟩ := ai_fence ks h.ai
  exact ⟨_, _, by rw [r1], h.next hk hD r2 (by have := h.few; omega) h.t64⟩
theorem AR.dead {w0 w : World} {t m c y : Nat} {n : Int} {j : Nat} {T : List Int} {d : Dv} (h : AR w0 w t m c y n j T d) {b : Bool} (hb : decide (n ≤ (j : Int)) = b) : Calls Try.prog 18 #[.pointer (some ⟨t, 0, none⟩)] w fun e w' => e = .returned (.bool b) ∧ w' = w := by
  have := deadD_any h.dev
  rw [h.ai.dead, hb] at this
  exact this
theorem AR.events {w0 w : World} {t m c y : Nat} {n : Int} {j : Nat} {T : List Int} {d : Dv} (h : AR w0 w t m c y n j T d) {b : Int} (hb : min (j : Int) (n - 1) = b) : Calls Try.prog 19 #[.pointer (some ⟨t, 0, none⟩)] w fun e w' => e = .returned (.int .i64 b) ∧ w' = w := by
  have := events_any h.dev
  rw [h.ai.ev, hb] at this
  exact this
theorem AR.crash {w0 w : World} {t m c y : Nat} {n : Int} {j : Nat} {T : List Int} {d : Dv} (h : AR w0 w t m c y n j T d) (hn : n ≤ 40) : Calls Try.prog 20 #[.pointer (some ⟨t, 0, none⟩), .slice none 0 0] w fun e w' => ∃ c' y' d', e = .returned (.tuple #[]) ∧ DevIs w' t m c' y' T d' ∧ d'.n = 512 ∧ d'.dead = false ∧ d'.armed = 0 ∧ d'.events < 1000 ∧ (∀ i ∈ [t, m, c', y'], w0.heap.size ≤ i) ∧ Below w0.heap.size w0 w' := by
  obtain ⟨ks, hr, hm, _, _⟩ := dirtyD_any h.dev
  refine (crash_any h.dev h.t64 hr hm (keep := []) 0 ⟨rfl, .inl rfl⟩ (fun h => absurd rfl h)).mono ?_
  rintro e w' ⟨c', y', rfl, hD, hk, h1, h2⟩
  have hN : ∀ j, d.crashN ks [] j = d := by
    intro j
    induction j with
    | zero => rfl
    | succ j ih =>
      cases hx : ks[j]? with
      | none =>
        show (match ks[j]? with | none => _ | some x => _) = _
        rw [hx]; exact ih
      | some x => rw [crashN_no hx (by simp)]; exact ih
  have hs := h.bel.size
  refine ⟨c', y', _, rfl, hD, ?_, rfl, rfl, ?_, ?_, Kept.below h.bel hk h.lo h.bel.size⟩
  · show (d.crashN ks [] ks.length).n = 512
    rw [hN]; exact h.ai.w
  · show (d.crashN ks [] ks.length).events < 1000
    rw [hN, h.ai.ev]; omega
  · intro i hi
    have h3 := h.lo t (by simp)
    have h4 := h.lo m (by simp)
    simp only [List.mem_cons, List.not_mem_nil, or_false] at hi
    omega

theorem and63 (x : Int) : 0 ≤ bits .and .i64 x 63 ∧ bits .and .i64 x 63 < 64 := by
  show 0 ≤ IntKind.i64.wrap ((BitVec.ofInt 64 x &&& BitVec.ofInt 64 63).toNat : Int) ∧ IntKind.i64.wrap ((BitVec.ofInt 64 x &&& BitVec.ofInt 64 63).toNat : Int) < 64
  have h : (BitVec.ofInt 64 x &&& BitVec.ofInt 64 63).toNat ≤ 63 := by
    rw [BitVec.toNat_and]
    exact Nat.and_le_right
  generalize (BitVec.ofInt 64 x &&& BitVec.ofInt 64 63).toNat = k at *
  rw [IntWalk.i64_left]
  unfold wrap64
  omega
set_option maxRecDepth 100000 in
set_option maxHeartbeats 8000000 in
theorem armed_walk {A : Option Addr} {l : Nat} {xs : List De} {w : World} (n : Int) (cap : Nat) (h : Deeds w w.heap.size A l xs) (hm : l ≤ maxLen) (hx : ∀ x ∈ xs, W64 x.i) : Calls Try.prog 3 #[.int .i64 n, .slice A l cap] w fun e w' => e = .returned (.bool true) ∧ Below w.heap.size w w' := by
  have CA := Lib.hid (awake_any w)
  have H := Lib.hid h
  have CF0 := fun w1 (hb : Below w.heap.size w w1) => few_any cap (h.below hb) hm
  have hlen := h.1
  have HX := Lib.hid hx
  unfold maxLen at hm
  clear h hx
  cases hfb : fewB xs with
  | false =>
    rw [hfb] at CF0
    have CF := Lib.hid CF0
    clear CF0 hfb
    go_enter Try.func3, Try.ntmps3
    go_wp2_with (first
      | (go_at_call 11; refine (CA.out).mono ?_; rintro e w1 ⟨rfl, hb1⟩)
      | (go_at_call 12; refine (CF.out w1 hb1).mono ?_; rintro e w2 ⟨rfl, hb2⟩; have hb3 := hb1.trans (hb2.mono hb1.size)))
    go_ret
    exact ⟨rfl, hb3⟩
  | true =>
    rw [hfb] at CF0
    have CF := Lib.hid CF0
    obtain ⟨hfl, hfk⟩ := fewB_le hfb
    clear CF0 hfb hfk
    by_cases hn1 : n < 1
    · go_enter Try.func3, Try.ntmps3
      go_wp2_with (first
        | (go_at_call 11; refine (CA.out).mono ?_; rintro e w1 ⟨rfl, hb1⟩)
        | (go_at_call 12; refine (CF.out w1 hb1).mono ?_; rintro e w2 ⟨rfl, hb2⟩; have hb3 := hb1.trans (hb2.mono hb1.size)))
      go_ret
      exact ⟨rfl, hb3⟩
    · by_cases hn2 : 40 < n
      · go_enter Try.func3, Try.ntmps3
        go_wp2_with (first
          | (go_at_call 11; refine (CA.out).mono ?_; rintro e w1 ⟨rfl, hb1⟩)
          | (go_at_call 12; refine (CF.out w1 hb1).mono ?_; rintro e w2 ⟨rfl, hb2⟩; have hb3 := hb1.trans (hb2.mono hb1.size)))
        go_ret
        exact ⟨rfl, hb3⟩
      · have hn3 : n ≤ 40 := by omega
        have hnw : W64 n := by unfold W64; omega
        have hnm : max n 0 = n := by omega
        have HNM := Lib.hid hnm
        clear hnm
        go_enter Try.func3, Try.ntmps3
        go_wp2_with (first
          | (go_at_call 11; refine (CA.out).mono ?_; rintro e w1 ⟨rfl, hb1⟩)
          | (go_at_call 12; refine (CF.out w1 hb1).mono ?_; rintro e w2 ⟨rfl, hb2⟩; have hb3 := hb1.trans (hb2.mono hb1.size))
          | (go_at_call 13; refine (new_any w2 512).mono ?_; rintro e w3 ⟨t, m, c, y, rfl, hD, hb4, hlo⟩; have HD := Lib.hid hD; have hb5 := hb3.trans (hb4.mono hb3.size); have HLO := Lib.hid (fun i hi => Nat.le_trans hb3.size (hlo i hi)); clear hD hlo hb4)
          | (go_at_call 14; refine (arm_any HD.out hnw).mono ?_; rintro e w4 ⟨rfl, hD2, hk2⟩; have HR := Lib.hid (show AR w w4 t m c y n 0 [] _ from ⟨hD2, ⟨rfl, by show false = _; rw [eq_comm, decide_eq_false_iff_not]; omega, by show (0 : Int) = _; omega, fun _ => by show max n 0 = _; omega⟩, Nat.le_refl _, (fun i hi => by cases hi), HLO.out, Kept.below hb5 hk2 HLO.out hb5.size⟩); clear hD2 hk2))
        go_loopw [6, 30] (fun k u wr => ∃ (j : Nat) (T : List Int) (d : Dv), j ≤ l ∧ u = .int .i64 j ∧ k = .int .i64 j ∧ AR w wr t m c y n j T d) (fun _ u _ => l - (intOf u).toNat)
        case atStart => exact ⟨0, _, _, Nat.zero_le _, rfl, rfl, HR.out⟩
        case round =>
          obtain ⟨j, T, d, hj, rfl, rfl, hR⟩ := hrel
          have hbr := hR.bel
          by_cases hlt : j < l
          · obtain ⟨g, off, rfl, hgl, x, hxj, hxm, c0, c1, c2, c3, _, _⟩ := (H.out.below hbr).at hlt
            clear hxj hxm
            obtain ⟨hi0, hi1⟩ := and63 x.i
            have hba : Below wr.heap.size wr (wr.alloc (.cells #[.int .i64 x.k, .int .i64 x.i, .int .u64 x.v, .slice x.ka x.kn x.kc] 31)) := (Below.refl _ _).alloc (Nat.le_refl _) _
            have HRa := Lib.hid (hR.below hba)
            generalize hix : bits BinOp.and IntKind.i64 x.i 63 = i63 at *
            clear hR hba
            have hj9 : j < 100 := by omega
            have hj8 : ((j + 1 : Nat) : Int) = (j : Int) + 1 := by omega
            by_cases hk1 : x.k = 1
            · have hkb : (x.k == 1) = true := by simp [hk1]
              clear hk1
              by_cases hjn : (j : Int) + 1 < n
              · as_aux_lemma =>
                  have hok : okB n j = 0 := if_pos hjn
                  have HOK := Lib.hid hok
                  clear hok
                  go_wp2_with (first
                    | (go_at_call 15; refine (HRa.out.flush hn3 hi0 hi1).mono ?_; rintro e w5 ⟨T', d', rfl, hR2⟩; rw [HOK.out]; have HR2 := Lib.hid hR2; clear hR2)
                    | (go_at_call 18; refine (HR2.out.dead (b := false) (by rw [decide_eq_false_iff_not]; omega)).mono ?_; rintro e w' ⟨rfl, hw⟩; rw [hw]; clear hw w')
                    | (go_at_call 19; refine (HR2.out.events (b := min ((j : Int) + 1) (n - 1)) rfl).mono ?_; rintro e w' ⟨rfl, hw⟩; rw [hw]; clear hw w'))
                  go_roundw
                  case rel => exact ⟨j + 1, _, _, by omega, by go_num, by go_num, HR2.out⟩
                  case measure => simp [intOf]; omega
              · as_aux_lemma =>
                  have hok : okB n j = 5 := if_neg hjn
                  have HOK := Lib.hid hok
                  clear hok
                  go_wp2_with (first
                    | (go_at_call 15; refine (HRa.out.flush hn3 hi0 hi1).mono ?_; rintro e w5 ⟨T', d', rfl, hR2⟩; rw [HOK.out]; have HR2 := Lib.hid hR2; clear hR2)
                    | (go_at_call 18; refine (HR2.out.dead (b := true) (by rw [decide_eq_true_iff]; omega)).mono ?_; rintro e w' ⟨rfl, hw⟩; rw [hw]; clear hw w')
                    | (go_at_call 19; refine (HR2.out.events (b := min ((j : Int) + 1) (n - 1)) rfl).mono ?_; rintro e w' ⟨rfl, hw⟩; rw [hw]; clear hw w'))
                  go_roundw
                  case rel => exact ⟨j + 1, _, _, by omega, by go_num, by go_num, HR2.out⟩
                  case measure => simp [intOf]; omega
            · by_cases hk2 : x.k = 2
              · have hkb : (x.k == 1) = false := by simp [hk1]
                have hkc : (x.k == 2) = true := by simp [hk2]
                clear hk1 hk2
                by_cases hjn : (j : Int) + 1 < n
                · as_aux_lemma =>
                    have hok : okB n j = 0 := if_pos hjn
                    have HOK := Lib.hid hok
                    clear hok
                    go_wp2_with (first
                      | (go_at_call 16; refine (HRa.out.fence hn3).mono ?_; rintro e w5 ⟨T', d', rfl, hR2⟩; rw [HOK.out]; have HR2 := Lib.hid hR2; clear hR2)
                      | (go_at_call 18; refine (HR2.out.dead (b := false) (by rw [decide_eq_false_iff_not]; omega)).mono ?_; rintro e w' ⟨rfl, hw⟩; rw [hw]; clear hw w')
                      | (go_at_call 19; refine (HR2.out.events (b := min ((j : Int) + 1) (n - 1)) rfl).mono ?_; rintro e w' ⟨rfl, hw⟩; rw [hw]; clear hw w'))
                    go_roundw
                    case rel => exact ⟨j + 1, _, _, by omega, by go_num, by go_num, HR2.out⟩
                    case measure => simp [intOf]; omega
                · as_aux_lemma =>
                    have hok : okB n j = 5 := if_neg hjn
                    have HOK := Lib.hid hok
                    clear hok
                    go_wp2_with (first
                      | (go_at_call 16; refine (HRa.out.fence hn3).mono ?_; rintro e w5 ⟨T', d', rfl, hR2⟩; rw [HOK.out]; have HR2 := Lib.hid hR2; clear hR2)
                      | (go_at_call 18; refine (HR2.out.dead (b := true) (by rw [decide_eq_true_iff]; omega)).mono ?_; rintro e w' ⟨rfl, hw⟩; rw [hw]; clear hw w')
                      | (go_at_call 19; refine (HR2.out.events (b := min ((j : Int) + 1) (n - 1)) rfl).mono ?_; rintro e w' ⟨rfl, hw⟩; rw [hw]; clear hw w'))
                    go_roundw
                    case rel => exact ⟨j + 1, _, _, by omega, by go_num, by go_num, HR2.out⟩
                    case measure => simp [intOf]; omega
              · have hkb : (x.k == 1) = false := by simp [hk1]
                have hkc : (x.k == 2) = false := by simp [hk2]
                clear hk1 hk2
                by_cases hjn : (j : Int) + 1 < n
                · as_aux_lemma =>
                    have hok : okB n j = 0 := if_pos hjn
                    have HOK := Lib.hid hok
                    clear hok
                    go_wp2_with (first
                      | (go_at_call 17; refine (HRa.out.store hn3 hj9 hi0 hi1 x.v).mono ?_; rintro e w5 ⟨T', d', rfl, hR2⟩; rw [HOK.out]; have HR2 := Lib.hid hR2; clear hR2)
                      | (go_at_call 18; refine (HR2.out.dead (b := false) (by rw [decide_eq_false_iff_not]; omega)).mono ?_; rintro e w' ⟨rfl, hw⟩; rw [hw]; clear hw w')
                      | (go_at_call 19; refine (HR2.out.events (b := min ((j : Int) + 1) (n - 1)) rfl).mono ?_; rintro e w' ⟨rfl, hw⟩; rw [hw]; clear hw w'))
                    go_roundw
                    case rel => exact ⟨j + 1, _, _, by omega, by go_num, by go_num, HR2.out⟩
                    case measure => simp [intOf]; omega
                · as_aux_lemma =>
                    have hok : okB n j = 5 := if_neg hjn
                    have HOK := Lib.hid hok
                    clear hok
                    go_wp2_with (first
                      | (go_at_call 17; refine (HRa.out.store hn3 hj9 hi0 hi1 x.v).mono ?_; rintro e w5 ⟨T', d', rfl, hR2⟩; rw [HOK.out]; have HR2 := Lib.hid hR2; clear hR2)
                      | (go_at_call 18; refine (HR2.out.dead (b := true) (by rw [decide_eq_true_iff]; omega)).mono ?_; rintro e w' ⟨rfl, hw⟩; rw [hw]; clear hw w')
                      | (go_at_call 19; refine (HR2.out.events (b := min ((j : Int) + 1) (n - 1)) rfl).mono ?_; rintro e w' ⟨rfl, hw⟩; rw [hw]; clear hw w'))
                    go_roundw
                    case rel => exact ⟨j + 1, _, _, by omega, by go_num, by go_num, HR2.out⟩
                    case measure => simp [intOf]; omega
          · have hge : ¬ (j : Int) < (l : Int) := by omega
            have HRa := Lib.hid hR
            clear hlt hR
            have h00 : W64 0 := by unfold W64; omega
            go_wp2_with (first
              | (go_at_call 20; refine (HRa.out.crash hn3).mono ?_; rintro e w5 ⟨c', y', d', rfl, hD5, e1, e2, e3, e4, hlo5, hb5'⟩; have HD5 := Lib.hid hD5; have HLO5 := Lib.hid hlo5; have HE1 := Lib.hid e1; have HE2 := Lib.hid e2; have HE3 := Lib.hid e3; have HTL := Lib.hid HRa.out.few; clear hD5 hlo5 e1 e2 e3)
              | (go_at_call 18; refine (deadD_any HD5.out).mono ?_; rintro e w' ⟨rfl, hw⟩; rw [hw, HE2.out]; clear hw w')
              | (go_at_call 17; refine (store_any HD5.out h00 1 (by omega) (by have := HTL.out; omega)).mono ?_; rintro e w6 ⟨rfl, hD6, hk6⟩; rw [store_go 1 (by rw [HE2.out, HE1.out]; rfl) (by rw [HE3.out]; omega)]; clear hD6))
            go_ret
            exact ⟨rfl, Kept.below hb5' hk6 HLO5.out hb5'.size⟩
end Go.Proofs.Ytdnoniolpplgiaa
