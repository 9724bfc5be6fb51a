/- The document's device, as it lies in memory; its reading methods: contracts. -/
import Derived.Test.YtdnoniolpplgiaaDeeds
namespace Go.Proofs.Ytdnoniolpplgiaa
open Go.RowKit Go.Maps Go.Sort Go.Shelf

/-- A word that somebody has touched. -/
structure Wd where
  at_ : Int
  stays : Int
  holds : Int
  dirty : Bool
  way : Bool
  sent : Int
/-- The document's device. -/
structure Rf where
  n : Int
  ws : List Wd
  armed : Int
  dead : Bool
  events : Int

def WdAt (w : World) (b o : Nat) (x : Wd) : Prop :=
  w.cell? ⟨b, o, none⟩ = some (.int .i64 x.at_) ∧ w.cell? ⟨b, o + 1, none⟩ = some (.int .u64 x.stays) ∧ w.cell? ⟨b, o + 2, none⟩ = some (.int .u64 x.holds) ∧ w.cell? ⟨b, o + 3, none⟩ = some (.bool x.dirty) ∧ w.cell? ⟨b, o + 4, none⟩ = some (.bool x.way) ∧ w.cell? ⟨b, o + 5, none⟩ = some (.int .u64 x.sent)
def wdV (x : Wd) : Value := .agg #[.int .i64 x.at_, .int .u64 x.stays, .int .u64 x.holds, .bool x.dirty, .bool x.way, .int .u64 x.sent]
def wdC (x : Wd) : Array Value := #[.int .i64 x.at_, .int .u64 x.stays, .int .u64 x.holds, .bool x.dirty, .bool x.way, .int .u64 x.sent]
theorem WdAt.block {w w' : World} {b o : Nat} {x : Wd} (h : WdAt w b o x) (hb : w'.heap[b]? = w.heap[b]?) : WdAt w' b o x := by
  have e : ∀ k, w'.cell? ⟨b, k, none⟩ = w.cell? ⟨b, k, none⟩ := fun k => World.cell?_of_block hb
  exact ⟨(e _).trans h.1, (e _).trans h.2.1, (e _).trans h.2.2.1, (e _).trans h.2.2.2.1, (e _).trans h.2.2.2.2.1, (e _).trans h.2.2.2.2.2⟩

/-- The words' slice: nil, or a block of its own. -/
def WsIs (w : World) (s : Nat) (X : Option Nat) (cap : Nat) (ws : List Wd) : Prop :=
  match X with
  | none => ws = [] ∧ cap = 0
  | some b => b < w.heap.size ∧ b ≠ s ∧ (∀ o, w.frozen? ⟨b, o, none⟩ = false) ∧ ∀ i, (h : i < ws.length) → WdAt w b (i * 6) ws[i]
theorem wsIs_grown {w w' : World} {s cap : Nat} {X : Option Nat} {ws : List Wd} (h : WsIs w s X cap ws) (hg : w.grownBy w' (some s)) : WsIs w' s X cap ws := by
  cases X with
  | none => exact h
  | some b =>
    obtain ⟨h1, h2, h3, h4⟩ := h
    have hbb := hg.block b h1 (by simpa using h2)
    exact ⟨Nat.lt_of_lt_of_le h1 hg.size, h2, fun o => (World.frozen?_of_block (a := ⟨b, o, none⟩) hbb).trans (h3 o), fun i hi => (h4 i hi).block hbb⟩
def slV (X : Option Nat) (n cap : Nat) : Value := .slice (X.map fun b => ⟨b, 0, none⟩) n cap
structure RefIs (w : World) (s : Nat) (X : Option Nat) (cap : Nat) (x : Rf) : Prop where
  c0 : w.cell? ⟨s, 0, none⟩ = some (.int .i64 x.n)
  c1 : w.cell? ⟨s, 1, none⟩ = some (slV X x.ws.length cap)
  c2 : w.cell? ⟨s, 2, none⟩ = some (.int .i64 x.armed)
  c3 : w.cell? ⟨s, 3, none⟩ = some (.bool x.dead)
  c4 : w.cell? ⟨s, 4, none⟩ = some (.int .i64 x.events)
  fr : ∀ o, w.frozen? ⟨s, o, none⟩ = false
  sl : s < w.heap.size
  ws : WsIs w s X cap x.ws
  cap : x.ws.length ≤ cap
  few : x.ws.length < 10000
  nb : 0 ≤ x.n ∧ x.n ≤ 33554432
  ab : 0 ≤ x.armed ∧ x.armed < 9223372036854775808
  eb : 0 ≤ x.events ∧ x.events < 1000000000
/-- Its blocks. -/
def refB (s : Nat) (X : Option Nat) : List Nat := s :: X.toList
theorem RefIs.same {w w' : World} {s cap : Nat} {X : Option Nat} {x : Rf} (h : RefIs w s X cap x) (hs : w.heap.size ≤ w'.heap.size) (hb : ∀ i ∈ refB s X, w'.heap[i]? = w.heap[i]?) : RefIs w' s X cap x := by
  have ht := hb s (by simp [refB])
  have e : ∀ o, w'.cell? ⟨s, o, none⟩ = w.cell? ⟨s, o, none⟩ := fun o => World.cell?_of_block ht
  refine ⟨(e 0).trans h.c0, (e 1).trans h.c1, (e 2).trans h.c2, (e 3).trans h.c3, (e 4).trans h.c4, fun o => (World.frozen?_of_block (a := ⟨s, o, none⟩) ht).trans (h.fr o), Nat.lt_of_lt_of_le h.sl hs, ?_, h.cap, h.few, h.nb, h.ab, h.eb⟩
  have hw := h.ws
  cases X with
  | none => exact hw
  | some b =>
    obtain ⟨h1, h2, h3, h4⟩ := hw
    have hbb := hb b (by simp [refB])
    exact ⟨Nat.lt_of_lt_of_le h1 hs, h2, fun o => (World.frozen?_of_block (a := ⟨b, o, none⟩) hbb).trans (h3 o), fun i hi => (h4 i hi).block hbb⟩
theorem RefIs.lt {w : World} {s cap : Nat} {X : Option Nat} {x : Rf} (h : RefIs w s X cap x) : ∀ i ∈ refB s X, i < w.heap.size := by
  intro i hi
  unfold refB at hi
  have hw := h.ws
  cases X with
  | none => simp at hi; subst hi; exact h.sl
  | some b =>
    simp at hi
    rcases hi with rfl | rfl
    · exact h.sl
    · exact hw.1
theorem RefIs.below {w w' : World} {s cap : Nat} {X : Option Nat} {x : Rf} (h : RefIs w s X cap x) (hb : Below w.heap.size w w') : RefIs w' s X cap x := h.same hb.size (fun i hi => hb.block i (h.lt i hi))
theorem RefIs.kept {S : List Nat} {w w' : World} {s cap : Nat} {X : Option Nat} {x : Rf} (h : RefIs w s X cap x) (hk : Kept S w w') (hS : ∀ i ∈ refB s X, i ∉ S) : RefIs w' s X cap x := h.same hk.size (fun i hi => hk.block i (h.lt i hi) (hS i hi))
theorem RefIs.at {w : World} {s cap : Nat} {X : Option Nat} {x : Rf} (h : RefIs w s X cap x) {i : Nat} (hi : i < x.ws.length) : ∃ b, X = some b ∧ b < w.heap.size ∧ b ≠ s ∧ (∀ o, w.frozen? ⟨b, o, none⟩ = false) ∧ ∃ y, x.ws[i]? = some y ∧ w.cell? ⟨b, i * 6, none⟩ = some (.int .i64 y.at_) ∧ w.cell? ⟨b, i * 6 + 1, none⟩ = some (.int .u64 y.stays) ∧ w.cell? ⟨b, i * 6 + 2, none⟩ = some (.int .u64 y.holds) ∧ w.cell? ⟨b, i * 6 + 3, none⟩ = some (.bool y.dirty) ∧ w.cell? ⟨b, i * 6 + 4, none⟩ = some (.bool y.way) ∧ w.cell? ⟨b, i * 6 + 5, none⟩ = some (.int .u64 y.sent) := by
  have hw := h.ws
  cases X with
  | none => obtain ⟨h1, _⟩ := hw; rw [h1] at hi; simp at hi
  | some b =>
    obtain ⟨h1, h2, h3, h4⟩ := hw
    obtain ⟨c0, c1, c2, c3, c4, c5⟩ := h4 i hi
    exact ⟨b, rfl, h1, h2, h3, x.ws[i], List.getElem?_eq_getElem hi, c0, c1, c2, c3, c4, c5⟩

/-- A word's find: none, or the first one there. -/
def wFind (ws : List Wd) (i : Int) : Option Wd := ws.find? (fun y => y.at_ == i)
def Rf.holds (x : Rf) (i : Int) : Int := match wFind x.ws i with | none => 0 | some y => if y.dirty = true then y.holds else y.stays
def Rf.stays (x : Rf) (i : Int) : Int := match wFind x.ws i with | none => 0 | some y => y.stays
theorem wFind_at {ws : List Wd} {i : Int} : ∀ {j : Nat} {y : Wd}, ws[j]? = some y → (∀ k z, k < j → ws[k]? = some z → z.at_ ≠ i) → y.at_ = i → wFind ws i = some y := by
  unfold wFind
  induction ws with
  | nil => intro j y h; simp at h
  | cons x t ih =>
    intro j y h hn he
    cases j with
    | zero => simp at h; subst h; simp [he]
    | succ j =>
      have h0 := hn 0 x (by omega) rfl
      rw [List.find?_cons_of_neg (by simp [h0])]
      exact ih (by simpa using h) (fun k z hk hz => hn (k + 1) z (by omega) (by simpa using hz)) he
theorem wFind_none {ws : List Wd} {i : Int} (h : ∀ k z, k < ws.length → ws[k]? = some z → z.at_ ≠ i) : wFind ws i = none := by
  unfold wFind
  rw [List.find?_eq_none]
  intro y hy
  obtain ⟨k, hk, rfl⟩ := List.mem_iff_getElem.1 hy
  have := h k _ hk (List.getElem?_eq_getElem hk)
  simpa using this

section
variable {w : World} {s cap : Nat} {X : Option Nat} {x : Rf}
set_option maxRecDepth 100000 in
set_option maxHeartbeats 4000000 in
theorem rstays_any (h : RefIs w s X cap x) (i : Int) : Calls Try.prog 28 #[.pointer (some ⟨s, 0, none⟩), .int .i64 i] w fun e w' => e = .returned (.int .u64 (x.stays i)) ∧ Below w.heap.size w w' := by
  have H := Lib.hid h
  have hc1 := h.c1
  have hfew := h.few
  have hyes : ∀ (j : Nat) (y : Wd), x.ws[j]? = some y → (∀ (k : Nat) (z : Wd), k < j → x.ws[k]? = some z → z.at_ ≠ i) → y.at_ = i → x.stays i = y.stays := fun j y h1 h2 h3 => by unfold Rf.stays; rw [wFind_at h1 h2 h3]
  have hno : (∀ (k : Nat) (z : Wd), k < x.ws.length → x.ws[k]? = some z → z.at_ ≠ i) → x.stays i = 0 := fun h => by unfold Rf.stays; rw [wFind_none h]
  have HY := Lib.hid hyes
  have HN := Lib.hid hno
  generalize x.stays i = sv at *
  clear h hyes hno
  unfold slV at hc1
  go_enter Try.func28, Try.ntmps28
  go_wp2
  go_loopw [12] (fun k wr => ∃ j : Nat, j ≤ x.ws.length ∧ k = .int .i64 j ∧ (∀ (k : Nat) (z : Wd), k < j → x.ws[k]? = some z → z.at_ ≠ i) ∧ Below w.heap.size w wr) (fun k _ => x.ws.length - (intOf k).toNat)
  case atStart => exact ⟨0, Nat.zero_le _, rfl, fun k z hk => by omega, Below.refl _ _⟩
  case round =>
    obtain ⟨j, hj, rfl, hp, hb⟩ := hrel
    have HPP := Lib.hid hp
    clear hp
    by_cases hlt : j < x.ws.length
    · obtain ⟨b, rfl, hbl, hbs, hfr, y, hy, f0, f1, f2, f3, f4, f5⟩ := (H.out.below hb).at hlt
      have HYY := Lib.hid hy
      have hba := fun o => hb.alloc hb.size o
      clear hy hfr
      by_cases he : y.at_ = i
      · have heb : (y.at_ == i) = true := by simp [he]
        have hsv := HY.out j y HYY.out HPP.out he
        have HSV := Lib.hid hsv
        clear hsv he
        go_wp2
        go_ret
        exact ⟨by rw [HSV.out]; rfl, hba _⟩
      · have heb : (y.at_ == i) = false := by simp [he]
        go_wp2
        go_roundw
        case rel => exact ⟨j + 1, by omega, by go_num, (fun k z hk hz => by
          rcases Nat.lt_succ_iff_lt_or_eq.1 hk with h | rfl
          · exact HPP.out k z h hz
          · rw [HYY.out] at hz; cases hz; exact he), hba _⟩
        case measure => simp [intOf]; omega
    · obtain rfl : j = x.ws.length := by omega
      have HSV := Lib.hid (HN.out HPP.out)
      go_wp2
      go_ret
      exact ⟨by rw [HSV.out]; rfl, hb⟩
set_option maxRecDepth 100000 in
set_option maxHeartbeats 4000000 in
theorem rholds_any (h : RefIs w s X cap x) (i : Int) : Calls Try.prog 27 #[.pointer (some ⟨s, 0, none⟩), .int .i64 i] w fun e w' => e = .returned (.int .u64 (x.holds i)) ∧ Below w.heap.size w w' := by
  have H := Lib.hid h
  have hc1 := h.c1
  have hfew := h.few
  have hyes : ∀ (j : Nat) (y : Wd), x.ws[j]? = some y → (∀ (k : Nat) (z : Wd), k < j → x.ws[k]? = some z → z.at_ ≠ i) → y.at_ = i → x.holds i = (if y.dirty = true then y.holds else y.stays) := fun j y h1 h2 h3 => by unfold Rf.holds; rw [wFind_at h1 h2 h3]
  have hno : (∀ (k : Nat) (z : Wd), k < x.ws.length → x.ws[k]? = some z → z.at_ ≠ i) → x.holds i = 0 := fun h => by unfold Rf.holds; rw [wFind_none h]
  have HY := Lib.hid hyes
  have HN := Lib.hid hno
  generalize x.holds i = sv at *
  clear h hyes hno
  unfold slV at hc1
  go_enter Try.func27, Try.ntmps27
  go_wp2
  go_loopw [12] (fun k wr => ∃ j : Nat, j ≤ x.ws.length ∧ k = .int .i64 j ∧ (∀ (k : Nat) (z : Wd), k < j → x.ws[k]? = some z → z.at_ ≠ i) ∧ Below w.heap.size w wr) (fun k _ => x.ws.length - (intOf k).toNat)
  case atStart => exact ⟨0, Nat.zero_le _, rfl, fun k z hk => by omega, Below.refl _ _⟩
  case round =>
    obtain ⟨j, hj, rfl, hp, hb⟩ := hrel
    have HPP := Lib.hid hp
    clear hp
    by_cases hlt : j < x.ws.length
    · obtain ⟨b, rfl, hbl, hbs, hfr, y, hy, f0, f1, f2, f3, f4, f5⟩ := (H.out.below hb).at hlt
      have HYY := Lib.hid hy
      have hba := fun o => hb.alloc hb.size o
      clear hy hfr
      by_cases he : y.at_ = i
      · have heb : (y.at_ == i) = true := by simp [he]
        have hsv := HY.out j y HYY.out HPP.out he
        have HSV := Lib.hid hsv
        clear hsv he
        cases hdy : y.dirty with
        | true =>
          rw [hdy] at f3 HSV
          have HSV2 := Lib.hid (show sv = y.holds from HSV.out)
          clear hdy HSV
          go_wp2
          go_ret
          exact ⟨by rw [HSV2.out]; rfl, hba _⟩
        | false =>
          rw [hdy] at f3 HSV
          have HSV2 := Lib.hid (show sv = y.stays from HSV.out)
          clear hdy HSV
          go_wp2
          go_ret
          exact ⟨by rw [HSV2.out]; rfl, hba _⟩
      · have heb : (y.at_ == i) = false := by simp [he]
        go_wp2
        go_roundw
        case rel => exact ⟨j + 1, by omega, by go_num, (fun k z hk hz => by
          rcases Nat.lt_succ_iff_lt_or_eq.1 hk with h | rfl
          · exact HPP.out k z h hz
          · rw [HYY.out] at hz; cases hz; exact he), hba _⟩
        case measure => simp [intOf]; omega
    · obtain rfl : j = x.ws.length := by omega
      have HSV := Lib.hid (HN.out HPP.out)
      go_wp2
      go_ret
      exact ⟨by rw [HSV.out]; rfl, hb⟩
theorem RefIs.set2 (h : RefIs w s X cap x) {n : Int} (hn : 0 ≤ n ∧ n < 9223372036854775808) : RefIs (w.setCell ⟨s, 2, none⟩ (.int .i64 n)) s X cap { x with armed := n } := by
  have hg := Lib.grownBy_setCell w s 2 (.int .i64 n)
  have o : ∀ k, k ≠ 2 → (w.setCell ⟨s, 2, none⟩ (.int .i64 n)).cell? ⟨s, k, none⟩ = w.cell? ⟨s, k, none⟩ := fun k hk => World.cell?_setCell_other _ _ _ _ (by intro e; cases e; exact hk rfl)
  exact ⟨(o 0 (by omega)).trans h.c0, (o 1 (by omega)).trans h.c1, World.cell?_setCell_same _ _ _ h.c2, (o 3 (by omega)).trans h.c3, (o 4 (by omega)).trans h.c4, fun k => by rw [World.frozen?_setCell]; exact h.fr k, Nat.lt_of_lt_of_le h.sl hg.size, wsIs_grown h.ws hg, h.cap, h.few, h.nb, hn, h.eb⟩
theorem RefIs.set3 (h : RefIs w s X cap x) (b : Bool) : RefIs (w.setCell ⟨s, 3, none⟩ (.bool b)) s X cap { x with dead := b } := by
  have hg := Lib.grownBy_setCell w s 3 (.bool b)
  have o : ∀ k, k ≠ 3 → (w.setCell ⟨s, 3, none⟩ (.bool b)).cell? ⟨s, k, none⟩ = w.cell? ⟨s, k, none⟩ := fun k hk => World.cell?_setCell_other _ _ _ _ (by intro e; cases e; exact hk rfl)
  exact ⟨(o 0 (by omega)).trans h.c0, (o 1 (by omega)).trans h.c1, (o 2 (by omega)).trans h.c2, World.cell?_setCell_same _ _ _ h.c3, (o 4 (by omega)).trans h.c4, fun k => by rw [World.frozen?_setCell]; exact h.fr k, Nat.lt_of_lt_of_le h.sl hg.size, wsIs_grown h.ws hg, h.cap, h.few, h.nb, h.ab, h.eb⟩
theorem RefIs.set4 (h : RefIs w s X cap x) {n : Int} (hn : 0 ≤ n ∧ n < 1000000000) : RefIs (w.setCell ⟨s, 4, none⟩ (.int .i64 n)) s X cap { x with events := n } := by
  have hg := Lib.grownBy_setCell w s 4 (.int .i64 n)
  have o : ∀ k, k ≠ 4 → (w.setCell ⟨s, 4, none⟩ (.int .i64 n)).cell? ⟨s, k, none⟩ = w.cell? ⟨s, k, none⟩ := fun k hk => World.cell?_setCell_other _ _ _ _ (by intro e; cases e; exact hk rfl)
  exact ⟨(o 0 (by omega)).trans h.c0, (o 1 (by omega)).trans h.c1, (o 2 (by omega)).trans h.c2, (o 3 (by omega)).trans h.c3, World.cell?_setCell_same _ _ _ h.c4, fun k => by rw [World.frozen?_setCell]; exact h.fr k, Nat.lt_of_lt_of_le h.sl hg.size, wsIs_grown h.ws hg, h.cap, h.few, h.nb, h.ab, hn⟩
set_option maxHeartbeats 1600000 in
theorem rarm_any (h : RefIs w s X cap x) {n : Int} (hn : W64 n) : Calls Try.prog 42 #[.pointer (some ⟨s, 0, none⟩), .int .i64 n] w fun e w' => e = .returned (.tuple #[]) ∧ RefIs w' s X cap { x with armed := max n 0 } ∧ Kept (refB s X) w w' := by
  have hc := h.c2
  have hfr := h.fr
  have HS := Lib.hid (h.set2 (n := max n 0) (by unfold W64 at hn; omega))
  clear h
  by_cases h0 : n < 0
  · rw [show max n 0 = 0 by omega] at HS ⊢
    go_enter Try.func42, Try.ntmps42
    go_wp2
    go_end0
    exact ⟨rfl, HS.out, Kept.setCell (by simp [refB])⟩
  · rw [show max n 0 = n by omega] at HS ⊢
    go_enter Try.func42, Try.ntmps42
    go_wp2
    go_end0
    exact ⟨rfl, HS.out, Kept.setCell (by simp [refB])⟩

def Rf.lines (x : Rf) : Int := (x.n + 7) / 8
set_option maxHeartbeats 1600000 in
theorem rlines_any (h : RefIs w s X cap x) : Calls Try.prog 84 #[.pointer (some ⟨s, 0, none⟩)] w fun e w' => e = .returned (.int .i64 x.lines) ∧ w' = w := by
  have hc := h.c0
  obtain ⟨hn0, hn1⟩ := h.nb
  unfold Rf.lines
  clear h
  generalize x.n = n at *
  go_enter Try.func84, Try.ntmps84
  go_wp2
  go_ret
  exact ⟨rfl, rfl⟩

def Rf.tick (x : Rf) : Rf := { x with armed := if 0 < x.armed then x.armed - 1 else x.armed, events := x.events + 1 }
def Rf.cut (x : Rf) : Rf := { x with armed := 0, dead := true }
set_option maxHeartbeats 4000000 in
theorem revent_cut (h : RefIs w s X cap x) (ha : x.armed = 1) : Calls Try.prog 85 #[.pointer (some ⟨s, 0, none⟩)] w fun e w' => e = .returned (.bool true) ∧ RefIs w' s X cap x.cut ∧ Kept (refB s X) w w' := by
  have hc2 := h.c2
  have hc3 := h.c3
  have hfr := h.fr
  have HS := Lib.hid ((h.set2 (n := 0) (by omega)).set3 true)
  rw [ha] at hc2
  unfold Rf.cut
  clear h ha
  go_enter Try.func85, Try.ntmps85
  go_wp2
  go_ret
  exact ⟨rfl, HS.out, (Kept.setCell (by simp [refB])).trans (Kept.setCell (by simp [refB]))⟩
set_option maxHeartbeats 4000000 in
theorem revent_go (h : RefIs w s X cap x) (ha : x.armed ≠ 1) (he : x.events < 900000000) : Calls Try.prog 85 #[.pointer (some ⟨s, 0, none⟩)] w fun e w' => e = .returned (.bool false) ∧ RefIs w' s X cap x.tick ∧ Kept (refB s X) w w' := by
  have hc2 := h.c2
  have hc4 := h.c4
  have hfr := h.fr
  have hab := h.ab
  have heb := h.eb
  have hk2 : ∀ (o o2 : Nat) (v v2 : Value), Kept (refB s X) w ((w.setCell ⟨s, o, none⟩ v).setCell ⟨s, o2, none⟩ v2) := fun o o2 v v2 => (Kept.setCell (by simp [refB])).trans (Kept.setCell (by simp [refB]))
  have HK2 := Lib.hid hk2
  have htk : 0 < x.armed → x.tick = { x with armed := x.armed - 1, events := x.events + 1 } := fun h0 => by unfold Rf.tick; rw [if_pos h0]
  have htk2 : ¬ 0 < x.armed → x.tick = { x with events := x.events + 1 } := fun h0 => by unfold Rf.tick; rw [if_neg h0]
  by_cases h0 : 0 < x.armed
  · rw [htk h0]
    have HS := Lib.hid ((h.set2 (n := x.armed - 1) (by omega)).set4 (n := x.events + 1) (by omega))
    have h1 : 1 < x.armed := by omega
    have hab1 : (x.armed == 1) = false := by simp [ha]
    clear h htk htk2 hk2 ha
    generalize x.armed = a at *
    generalize x.events = ev at *
    go_enter Try.func85, Try.ntmps85
    go_wp2
    go_ret
    exact ⟨rfl, HS.out, HK2.out _ _ _ _⟩
  · rw [htk2 h0]
    have HS := Lib.hid (h.set4 (n := x.events + 1) (by omega))
    have h1 : ¬ 1 < x.armed := by omega
    have hab1 : (x.armed == 1) = false := by simp [ha]
    clear h htk htk2 hk2 ha h0
    generalize x.armed = a at *
    generalize x.events = ev at *
    go_enter Try.func85, Try.ntmps85
    go_wp2
    go_ret
    exact ⟨rfl, HS.out, Kept.setCell (by simp [refB])⟩

def Wd.clean (y : Wd) : Wd := if y.dirty = true ∧ y.way = false ∧ y.holds = y.stays then { y with dirty := false, holds := 0 } else y
set_option maxRecDepth 100000 in
set_option maxHeartbeats 4000000 in
theorem clean_any (w : World) (y : Wd) : Calls Try.prog 86 #[wdV y] w fun e w' => e = .returned (wdV y.clean) ∧ Below w.heap.size w w' := by
  have hb : ∀ o o2, Below w.heap.size w ((w.alloc o).alloc o2) := fun o o2 => ((Below.refl _ _).alloc (Nat.le_refl _) o).alloc (by simp) o2
  have HB := Lib.hid hb
  obtain ⟨a, st, ho, di, wa, se⟩ := y
  unfold wdV
  clear hb
  by_cases hc : di = true ∧ wa = false ∧ ho = st
  · obtain ⟨rfl, rfl, rfl⟩ := hc
    rw [show Wd.clean ⟨a, ho, ho, true, false, se⟩ = ⟨a, ho, 0, false, false, se⟩ from if_pos ⟨rfl, rfl, rfl⟩]
    dsimp only
    go_enter Try.func86, Try.ntmps86
    go_wp2
    exact bodyPost_ret (v := .agg #[.int .i64 a, .int .u64 ho, .int .u64 0, .bool false, .bool false, .int .u64 se]) (by simp [results, Try.results86, go_sem]) rfl ⟨rfl, HB.out _ _⟩
  · rw [show Wd.clean ⟨a, st, ho, di, wa, se⟩ = ⟨a, st, ho, di, wa, se⟩ from if_neg hc]
    dsimp only
    cases di with
    | false =>
      clear hc
      go_enter Try.func86, Try.ntmps86
      go_wp2
      exact bodyPost_ret (v := .agg #[.int .i64 a, .int .u64 st, .int .u64 ho, .bool false, .bool wa, .int .u64 se]) (by simp [results, Try.results86, go_sem]) rfl ⟨rfl, HB.out _ _⟩
    | true =>
      cases wa with
      | true =>
        clear hc
        go_enter Try.func86, Try.ntmps86
        go_wp2
        exact bodyPost_ret (v := .agg #[.int .i64 a, .int .u64 st, .int .u64 ho, .bool true, .bool true, .int .u64 se]) (by simp [results, Try.results86, go_sem]) rfl ⟨rfl, HB.out _ _⟩
      | false =>
        have hne : (ho == st) = false := by
          rw [beq_eq_false_iff_ne]
          intro e
          exact hc ⟨rfl, rfl, e⟩
        clear hc
        go_enter Try.func86, Try.ntmps86
        go_wp2
        exact bodyPost_ret (v := .agg #[.int .i64 a, .int .u64 st, .int .u64 ho, .bool true, .bool false, .int .u64 se]) (by simp [results, Try.results86, go_sem]) rfl ⟨rfl, HB.out _ _⟩

/-- The dirty words, of the first of them. -/
def dirtyN (ws : List Wd) : List Int := (ws.filter Wd.dirty).map Wd.at_
theorem dirtyN_snoc (ws : List Wd) (y : Wd) : dirtyN (ws ++ [y]) = dirtyN ws ++ if y.dirty = true then [y.at_] else [] := by
  unfold dirtyN
  rw [List.filter_append, List.map_append]
  cases h : y.dirty <;> simp [h]
theorem dirtyN_len (ws : List Wd) : (dirtyN ws).length ≤ ws.length := by unfold dirtyN; rw [List.length_map]; exact List.length_filter_le _ _
set_option maxRecDepth 100000 in
set_option maxHeartbeats 4000000 in
theorem rdirty_any (h : RefIs w s X cap x) : Calls Try.prog 30 #[.pointer (some ⟨s, 0, none⟩)] w (NewInts (dirtyN x.ws) w) := by
  have H := Lib.hid h
  have hc1 := h.c1
  have hfew := h.few
  have hlt := h.lt
  have HLT := Lib.hid hlt
  obtain ⟨i0, hi, hz0, hz1, hz2⟩ := info_parts Try.info3
  clear h hlt
  unfold slV at hc1
  generalize hA : Option.map (fun b => (⟨b, 0, none⟩ : Addr)) X = A at *
  have HA := Lib.hid hA
  clear hA
  go_enter Try.func30, Try.ntmps30
  go_wp2
  go_loopw [3, 11] (fun v k wr => ∃ j : Nat, j ≤ x.ws.length ∧ k = .int .i64 j ∧ wr.ownsRow w.heap.size 3 1 v (dirtyN (x.ws.take j)).length ((dirtyN (x.ws.take j)).map (Value.int .i64)) ∧ Below w.heap.size w wr) (fun _ k _ => x.ws.length - (intOf k).toNat)
  case atStart => exact ⟨0, by omega, rfl, World.ownsRow_nil _ _ _ _, Below.refl _ _⟩
  case round =>
    obtain ⟨j, hj, rfl, hown, hb⟩ := hrel
    have Hown := Lib.hid hown
    have hbs := hb.size
    by_cases hlt : j < x.ws.length
    · obtain ⟨b, rfl, hbl, hbn, hfr, y, hy, f0, f1, f2, f3, f4, f5⟩ := (H.out.below hb).at hlt
      have hA : some (⟨b, 0, none⟩ : Addr) = A := HA.out
      subst hA
      have HS := Lib.hid (show dirtyN (x.ws.take (j + 1)) = dirtyN (x.ws.take j) ++ if y.dirty = true then [y.at_] else [] from by rw [take_snoc hy, dirtyN_snoc])
      have hln := dirtyN_len (x.ws.take j)
      rw [List.length_take] at hln
      have hln2 : (dirtyN (x.ws.take j)).length ≤ j := by omega
      have hba := fun o => hb.alloc hb.size o
      clear hown hy hfr hln
      cases hdy : y.dirty with
      | false =>
        rw [hdy] at f3 HS
        have HS2 := Lib.hid (HS.out.trans (List.append_nil _))
        have Hal := Lib.hid (fun o => Hown.out.alloc o)
        clear hdy HS
        go_wp2
        go_roundw
        case rel => exact ⟨j + 1, by omega, by go_num, by rw [HS2.out]; exact Hal.out _, hba _⟩
        case measure => simp [intOf]; omega
      | true =>
        rw [hdy] at f3 HS
        have HS2 := Lib.hid (HS.out.trans (show _ = dirtyN (x.ws.take j) ++ [y.at_] from rfl))
        clear hdy HS
        generalize dirtyN (x.ws.take j) = out at *
        have hbb := (hba (.cells #[.int .i64 y.at_, .int .u64 y.stays, .int .u64 y.holds, .bool true, .bool y.way, .int .u64 y.sent] 94))
        go_wp2_with (at_builtin; refine wpList_append_own _ rfl _ _ 45 rfl w.heap.size 3 i0 (.int .i64 0) 1 8 Try.underlying45 hi hz0 hz1 hz2 rfl (by decide) _ out.length (out.map (Value.int .i64)) rfl ((Hown.out.alloc _).alloc _) ⟨wr.heap.size + 1, 0, none⟩ 1 1 [.int .i64 y.at_] rfl rfl ?c1 ?c2 ?c3 ?c4 ?c5 ?_)
        case c1 => intro k u hu; first | exact hu | (rcases k with _ | k; (cases hu; rw [show (⟨wr.heap.size + 1, 0, none⟩ : Addr).add 0 = ⟨wr.heap.size + 1, 0, none⟩ from rfl]; go_simp); (cases hu))
        case c2 => intro u hu; rw [List.mem_singleton] at hu; subst hu; rfl
        case c3 => unfold maxLen; omega
        case c4 => omega
        case c5 => simp; omega
        intro v6 w6 hown6 hgrow6 _
        have hb6 := (hbb.alloc hbb.size (.cells #[.int .i64 y.at_] 3)).grown hgrow6 (by simp; omega) (fun k hk => (Hown.out.lt k hk).1)
        have c60 := hgrow6.cell (show ((wr.alloc (.cells #[.int .i64 y.at_, .int .u64 y.stays, .int .u64 y.holds, .bool true, .bool y.way, .int .u64 y.sent] 94)).alloc (.cells #[.int .i64 y.at_] 3)).cell? ⟨wr.heap.size, 0, none⟩ = some (.int .i64 y.at_) by go_simp) (fun e => by have := (Hown.out.lt _ e.symm).2; simp only at this; omega)
        have Hown6 := Lib.hid (nums_snoc hown6)
        clear hown6 hgrow6 hbb
        go_wp2
        go_roundw
        case rel => exact ⟨j + 1, by omega, by go_num, by rw [HS2.out]; exact Hown6.out, hb6⟩
        case measure => simp [intOf]; omega
    · obtain rfl : j = x.ws.length := by omega
      rw [List.take_length] at hown
      obtain ⟨Y, c', hv⟩ := own_slice hown
      subst hv
      have Hown := Lib.hid hown
      clear hown
      go_wp2
      go_ret
      exact ⟨Y, c', rfl, ints_of_nums rfl Hown.out, row_from Hown.out, hb⟩

def Rf.new (n : Int) : Rf := ⟨min (max n 0) 33554432, [], 0, false, 0⟩
set_option maxRecDepth 100000 in
set_option maxHeartbeats 4000000 in
theorem rnew_any (w : World) (n : Int) : Calls Try.prog 21 #[.int .i64 n] w fun e w' => e = .returned (.pointer (some ⟨w.heap.size, 0, none⟩)) ∧ RefIs w' w.heap.size none 0 (Rf.new n) ∧ Below w.heap.size w w' := by
  have key : ∀ k : Int, 0 ≤ k → k ≤ 33554432 → RefIs (w.alloc (.cells #[.int .i64 k, .slice none 0 0, .int .i64 0, .bool false, .int .i64 0] 51)) w.heap.size none 0 ⟨k, [], 0, false, 0⟩ := fun k h0 h1 =>
    ⟨by go_simp, by unfold slV; go_simp, by go_simp, by go_simp, by go_simp, fun o => by go_simp, by simp, ⟨rfl, rfl⟩, Nat.le_refl _, by simp, ⟨h0, h1⟩, by simp only; omega, by simp only; omega⟩
  have HK := Lib.hid key
  have hb : ∀ o, Below w.heap.size w (w.alloc o) := fun o => (Below.refl _ _).alloc (Nat.le_refl _) o
  have HB := Lib.hid hb
  clear key hb
  unfold Rf.new
  by_cases h0 : n < 0
  · rw [show min (max n 0) 33554432 = 0 by omega]
    go_enter Try.func21, Try.ntmps21
    go_wp2
    go_ret
    exact ⟨rfl, HK.out 0 (by omega) (by omega), HB.out _⟩
  · by_cases h1 : 33554432 < n
    · rw [show min (max n 0) 33554432 = 33554432 by omega]
      go_enter Try.func21, Try.ntmps21
      go_wp2
      go_ret
      exact ⟨rfl, HK.out _ (by omega) (by omega), HB.out _⟩
    · rw [show min (max n 0) 33554432 = n by omega]
      go_enter Try.func21, Try.ntmps21
      go_wp2
      go_ret
      exact ⟨rfl, HK.out _ (by omega) (by omega), HB.out _⟩
end
end Go.Proofs.Ytdnoniolpplgiaa
