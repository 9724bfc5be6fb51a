/- The law PolicyRuns of package sumplaw02: the scores of any syncs, by any numbers, and where a file is eager first. The walk. -/
import Derived.Test.YtkakhjaaakophaaNils
namespace Go.Proofs.Ytkakhjaaakophaa
open Go.RowKit Fl

/-- Where the law's own box of the policy, and its slice, stand. -/
structure Ctx (w0 w : World) (k g l : Nat) (A : Option Addr) (n : Nat) (bs : List Bool) : Prop where
  box : w.heap[w0.heap.size]? = some (.cells #[.float .f64 k, .float .f64 g, .float .f64 l] 24 (0, 0))
  bools : Bools w A n bs
  below : Below w0.heap.size w0 w
theorem Ctx.lt {w0 w : World} {k g l : Nat} {A : Option Addr} {n : Nat} {bs : List Bool} (h : Ctx w0 w k g l A n bs) : w0.heap.size < w.heap.size := (Array.getElem?_eq_some_iff.1 h.box).1
theorem Ctx.step {w0 w w' : World} {k g l : Nat} {A : Option Addr} {n : Nat} {bs : List Bool} (h : Ctx w0 w k g l A n bs) (hb : Below w.heap.size w w') : Ctx w0 w' k g l A n bs :=
  ⟨(hb.block _ h.lt).trans h.box, h.bools.below hb, h.below.trans (hb.mono h.below.size)⟩
theorem Ctx.start {w0 : World} (k g l : Nat) {A : Option Addr} {n : Nat} {bs : List Bool} (h : Bools w0 A n bs) : Ctx w0 (w0.alloc (.cells #[.float .f64 k, .float .f64 g, .float .f64 l] 24)) k g l A n bs :=
  have hb : Below w0.heap.size w0 (w0.alloc (.cells #[.float .f64 k, .float .f64 g, .float .f64 l] 24)) := (Below.refl _ _).alloc (Nat.le_refl _) _
  ⟨heap_alloc_new w0 _, h.below hb, hb⟩
theorem Ctx.cells {w0 w : World} {k g l : Nat} {A : Option Addr} {n : Nat} {bs : List Bool} (h : Ctx w0 w k g l A n bs) :
    w.cell? ⟨w0.heap.size, 0, none⟩ = some (.float .f64 k) ∧ w.cell? ⟨w0.heap.size, 1, none⟩ = some (.float .f64 g) ∧ w.cell? ⟨w0.heap.size, 2, none⟩ = some (.float .f64 l) := by
  have := h.box
  refine ⟨?_, ?_, ?_⟩ <;> simp [World.cell?, this]

/-- The first of scores that is eager. -/
def pf (l : Option Nat) : List (Option Nat) → Option Nat
  | [] => none
  | x :: t => if ageq x l then some 0 else (pf l t).map (· + 1)
theorem afirst_pf (k g l : Option Nat) (bs : List Bool) : ∀ s, afirst k g l s bs = pf l (arun k g s bs) := by
  induction bs with
  | nil => intro s; rfl
  | cons b t ih => intro s; simp only [afirst, arun, pf, ih]
theorem pf_snoc (l x : Option Nat) (xs : List (Option Nat)) : pf l (xs ++ [x]) = match pf l xs with | some i => some i | none => if ageq x l then some xs.length else none := by
  induction xs with
  | nil => simp [pf]
  | cons y t ih =>
    simp only [List.cons_append, pf]
    by_cases h : ageq y l = true
    · rw [if_pos h, if_pos h]
    · rw [if_neg h, if_neg h, ih]
      cases hq : pf l t with
      | some i => simp
      | none => by_cases h2 : ageq x l = true <;> simp [h2]
/-- The last one of floats; 0 of none. -/
def lastF (rs : List Nat) : Nat := rs.getLast?.getD 0
theorem lastF_snoc (rs : List Nat) (r : Nat) : lastF (rs ++ [r]) = r := by unfold lastF; simp
theorem ascore_last (k g : Option Nat) (bs : List Bool) : ∀ s, ascore k g s bs = (arun k g s bs).getLast?.getD s := by
  induction bs with
  | nil => intro s; rfl
  | cons b t ih =>
    intro s
    have : ascore k g s (b :: t) = ascore k g (anext k g s b) t := rfl
    rw [this, ih]
    simp only [arun]
    cases h : arun k g (anext k g s b) t with
    | nil => rfl
    | cons y u => rw [List.getLast?_cons_cons, List.getLast?_cons]; rfl
theorem lastF_ab {rs : List Nat} {k g : Option Nat} {bs : List Bool} (h : rs.map ab = arun k g (ab 0) bs) : ab (lastF rs) = ascore k g (ab 0) bs := by
  rw [ascore_last, ← h, List.getLast?_map]; unfold lastF; cases rs.getLast? <;> rfl
def atI : Option Nat → Int
  | none => 0
  | some i => i

theorem row_slice {w : World} {base n : Nat} {v : Value} {rs : List Nat} (h : w.ownsRow base 22 1 v n (rs.map (Value.float .f64))) :
    ∃ X c, v = .slice X n c ∧ (rs = [] ∨ ∃ g, X = some ⟨g, 0, none⟩ ∧ g < w.heap.size ∧ base ≤ g ∧ ∀ i, (h : i < rs.length) → w.cell? ⟨g, i, none⟩ = some (.float .f64 rs[i])) := by
  rcases h.2 with ⟨rfl, rfl⟩ | ⟨g, cap, cur, rfl, _⟩
  · exact ⟨none, 0, rfl, .inl (by have := h.1; simpa using this)⟩
  · obtain ⟨_, h2, h3, h4⟩ := reads_cells h
    exact ⟨_, cap, rfl, .inr ⟨g, rfl, h2, h3, fun i hi => by have := h4 i hi; rwa [Nat.zero_add] at this⟩⟩

theorem _root_.Go.World.ownsRow.belowK {w w' : World} {base : Nat} {e : TypeId} {size : Nat} {v : Value} {n : Nat} {xs : List Value} (h : w.ownsRow base e size v n xs) (hb : Below w.heap.size w w') : w'.ownsRow base e size v n xs :=
  h.kept (row := none) ⟨hb.os, hb.tape, hb.output, hb.size, fun k hk _ => hb.block k hk⟩ (by cases v.ownBlock <;> simp)

set_option maxHeartbeats 400000 in
theorem runs_many (k g l : Nat) (A : Option Addr) (n cap : Nat) (w : World) (hn : 100 < n) (hm : n ≤ maxLen) : Calls Try.prog 7 #[pv k g l, .slice A n cap] w fun e w' => e = .returned (.bool true) ∧ Below w.heap.size w w' := by
  unfold pv
  unfold maxLen at hm
  have hn1 : (100 : Int) < (n : Int) := by omega
  go_enter Try.func7, Try.ntmps7
  go_wp2_with (go_at_call 10; refine (awake2 _).mono ?_; rintro e w1 ⟨rfl, hb1⟩)
  go_ret
  exact ⟨rfl, ((Below.refl _ _).alloc (Nat.le_refl _) _).trans (hb1.mono (by simp))⟩

set_option maxHeartbeats 1600000 in
theorem runs_few (k g l : Nat) (A : Option Addr) (n cap : Nat) (bs : List Bool) (w : World) (hn : n ≤ 100) (hv : Bools w A n bs) : Calls Try.prog 7 #[pv k g l, .slice A n cap] w fun e w' => e = .returned (.bool true) ∧ Below w.heap.size w w' := by
  unfold pv
  have hn1 : ¬ (100 : Int) < (n : Int) := by omega
  have C0 := Ctx.start k g l hv
  go_enter Try.func7, Try.ntmps7
  go_wp2_with fail
  refine (awake2 _).mono ?_
  rintro e w1 ⟨rfl, hb1⟩
  have C1 := C0.step hb1
  obtain ⟨p0, p1, p2⟩ := C1.cells
  go_wp2_with fail
  have hc := scores_of k g l cap C1.bools (by omega)
  unfold pv at hc
  refine hc.mono ?_
  clear hc
  rintro e w2 ⟨v, rs, rfl, hown, hrs, hb2⟩
  have C2 := C1.step hb2
  obtain ⟨p0, p1, p2⟩ := C2.cells
  have hl : (arun (ab k) (ab g) (ab 0) bs).length = n := by rw [arun_length]; exact C2.bools.1
  rw [hl] at hown
  have hrl : rs.length = n := by have := hown.1; simpa using this
  obtain ⟨X, c, rfl, hX⟩ := row_slice hown
  have HX := Lib.hid hX
  have Hown := Lib.hid hown
  have Hrs := Lib.hid hrs
  have Hrl := Lib.hid hrl
  have Hl := Lib.hid hl
  clear hX hown hrs hrl hl C0 C1
  go_wp2
  go_loop [6, 7, 8, 23] (fun a f s i => ∃ j : Nat, j ≤ n ∧ i = .int .i64 j ∧ a = .int .i64 (atI (pf (ab l) ((rs.take j).map ab))) ∧ f = .bool (pf (ab l) ((rs.take j).map ab)).isSome ∧ s = .float .f64 (lastF (rs.take j))) (fun _ _ _ i => n - (intOf i).toNat)
  case atStart => exact ⟨0, Nat.zero_le _, rfl, rfl, rfl, rfl⟩
  case round =>
    obtain ⟨j, hj, rfl, rfl, rfl, rfl⟩ := hrel
    by_cases hlt : j < n
    · have hjr : j < rs.length := by rw [Hrl.out]; exact hlt
      obtain ⟨gb, rfl, hgl, _, hcx⟩ : ∃ gb, X = some ⟨gb, 0, none⟩ ∧ gb < w2.heap.size ∧ w1.heap.size ≤ gb ∧ ∀ i, (h : i < rs.length) → w2.cell? ⟨gb, i, none⟩ = some (.float .f64 rs[i]) := by
        rcases HX.out with h | h
        · subst h; simp at hjr
        · exact h
      have hcj := hcx j hjr
      have hts : rs.take (j + 1) = rs.take j ++ [rs[j]] := List.take_succ_eq_append_getElem hjr
      generalize rs[j] = x at *
      have hlast : lastF (rs.take (j + 1)) = x := by rw [hts, lastF_snoc]
      have hpf := pf_snoc (ab l) (ab x) ((rs.take j).map ab)
      have hlen : ((rs.take j).map ab).length = j := by simp; omega
      rw [hlen, show (rs.take j).map ab ++ [ab x] = (rs.take (j + 1)).map ab by rw [hts]; simp] at hpf
      have Hlast := Lib.hid hlast
      clear hts hlast hlen hcx
      generalize ho : pf (ab l) ((rs.take j).map ab) = o at *
      generalize ho2 : pf (ab l) ((rs.take (j + 1)).map ab) = o2 at *
      have Ho := Lib.hid ho
      have Ho2 := Lib.hid ho2
      clear ho ho2
      cases o with
      | some i =>
        simp only at hpf
        have Hpf := Lib.hid hpf
        clear hpf
        go_wp2
        go_round
        case rel => exact ⟨j + 1, by omega, by go_num, by rw [Ho2.out, Hpf.out], by rw [Ho2.out, Hpf.out], by rw [Hlast.out]⟩
        case measure => simp [intOf]; omega
      | none =>
        simp only at hpf
        have hq := ageq_is x l
        cases hb : ageq (ab x) (ab l)
        · rw [hb] at hpf hq
          rw [if_neg (by simp)] at hpf
          have hq1 := hq.symm
          have Hpf := Lib.hid hpf
          clear hpf hq hb
          go_wp2
          go_round
          case rel => exact ⟨j + 1, by omega, by go_num, by rw [Ho2.out, Hpf.out], by rw [Ho2.out, Hpf.out], by rw [Hlast.out]⟩
          case measure => simp [intOf]; omega
        · rw [hb] at hpf hq
          rw [if_pos rfl] at hpf
          have hq1 := hq.symm
          have Hpf := Lib.hid hpf
          clear hpf hq hb
          go_wp2
          go_round
          case rel => exact ⟨j + 1, by omega, by go_num, by rw [Ho2.out, Hpf.out]; rfl, by rw [Ho2.out, Hpf.out]; rfl, by rw [Hlast.out]⟩
          case measure => simp [intOf]; omega
    · have e : j = n := by omega
      have et : rs.take j = rs := List.take_of_length_le (by rw [Hrl.out]; omega)
      rw [et]
      have hge : ¬ (j : Int) < (n : Int) := by omega
      clear e et hlt hj
      have hf : pf (ab l) (rs.map ab) = afirst (ab k) (ab g) (ab l) (ab 0) bs := by rw [afirst_pf, Hrs.out]
      have hla := lastF_ab Hrs.out
      rw [hf]
      generalize lastF rs = la at *
      have Hla := Lib.hid hla
      have C27 := Lib.hid (first_of k g l cap C2.bools (by omega))
      clear hla hf
      have Hown2 := Lib.hid (show w2.ownsRow w1.heap.size 22 1 (.slice X n c) (arun (ab k) (ab g) (ab 0) bs).length (rs.map (Value.float .f64)) by rw [Hl.out]; exact Hown.out)
      generalize ha : afirst (ab k) (ab g) (ab l) (ab 0) bs = o at *
      have Ha := Lib.hid ha
      clear ha
      unfold pv at C27
      have tail : ∀ (i : Int) (fb : Bool), Value.int .i64 i = .int .i64 (atI o) → fb = o.isSome → firstV o = .tuple #[.int .i64 i, .bool fb] := by
        intro i fb h1 h2
        cases o with
        | none => cases h1; subst h2; rfl
        | some i0 => cases h1; subst h2; rfl
      have HT := Lib.hid (tail _ _ rfl rfl)
      clear tail
      generalize atI o = ai at *
      generalize o.isSome = fb at *
      rw [HT.out] at C27
      go_wp2_with fail
      refine (C27.out).mono ?_
      rintro e w3 ⟨rfl, hb3⟩
      have C3 := C2.step hb3
      obtain ⟨q0, q1, q2⟩ := C3.cells
      go_wp2_with fail
      have hc := run_of k g l cap C3.bools (by omega)
      unfold pv at hc
      refine hc.mono ?_
      clear hc
      rintro e w4 ⟨v2, rs2, rfl, hown4, hrs4, hb4⟩
      have Hown4 := Lib.hid hown4
      have Hrs4 := Lib.hid hrs4
      clear hown4 hrs4
      have C4 := C3.step hb4
      obtain ⟨r0, r1, r2⟩ := C4.cells
      have hown24 : w4.ownsRow w1.heap.size 22 1 (.slice X n c) (arun (ab k) (ab g) (ab 0) bs).length (rs.map (Value.float .f64)) :=
        (Hown2.out.belowK hb3).belowK hb4
      have Hown24 := Lib.hid hown24
      clear hown24
      go_wp2_with fail
      refine (samefloats_rows (by rw [Hl.out]; omega) Hown4.out Hrs4.out Hown24.out Hrs.out).mono ?_
      rintro e w5 ⟨rfl, hb5⟩
      have C5 := C4.step hb5
      obtain ⟨s0, s1, s2⟩ := C5.cells
      go_wp2_with fail
      have hc := score_of k g l cap C5.bools (by omega)
      unfold pv at hc
      refine hc.mono ?_
      clear hc
      rintro e w6 ⟨r, rfl, hr, hb6⟩
      have C6 := C5.step hb6
      have Hr := Lib.hid (hr.trans Hla.out.symm)
      clear hr
      go_wp2_with fail
      refine (same_any r la Hr.out _).mono ?_
      rintro e w7 ⟨rfl, hb7⟩
      have C7 := C6.step hb7
      go_wp2
      go_ret
      exact ⟨by simp, C7.below⟩

theorem runs_any (k g l : Nat) (A : Option Addr) (n cap : Nat) (bs : List Bool) {w : World} (hv : Bools w A n bs) (hm : n ≤ maxLen) : Calls Try.prog 7 #[pv k g l, .slice A n cap] w fun e w' => e = .returned (.bool true) ∧ Below w.heap.size w w' := by
  by_cases h : n ≤ 100
  · exact runs_few k g l A n cap bs w h hv
  · exact runs_many k g l A n cap w (by omega) hm
end Go.Proofs.Ytkakhjaaakophaa
