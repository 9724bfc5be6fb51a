/- A device, as it lies in memory, and what is plain of it; its smaller methods: contracts. -/
import Derived.Test.YtdnoniolpplgiaaNum
import Derived.WalkSpells
import Derived.Lib.BufferWrite
namespace Go.Proofs.Ytdnoniolpplgiaa
open Go.RowKit Go.Maps Go.Sort Go.Shelf

/-- All but these blocks is as it was. -/
structure Kept (S : List Nat) (w w' : World) : Prop where
  os : w'.os = w.os
  tape : w'.tape = w.tape
  output : w'.output = w.output
  size : w.heap.size ≤ w'.heap.size
  block : ∀ k, k < w.heap.size → k ∉ S → w'.heap[k]? = w.heap[k]?
theorem Kept.refl (S : List Nat) (w : World) : Kept S w w := ⟨rfl, rfl, rfl, Nat.le_refl _, fun _ _ _ => rfl⟩
theorem Kept.of_below {S : List Nat} {w w' : World} (h : Below w.heap.size w w') : Kept S w w' := ⟨h.os, h.tape, h.output, h.size, fun k hk _ => h.block k hk⟩
theorem Kept.of_grown {S : List Nat} {w w' : World} {b : Nat} (h : w.grownBy w' (some b)) (hb : b ∈ S) : Kept S w w' := ⟨h.os, h.tape, h.output, h.size, fun k hk hn => h.block k hk (by simp; rintro rfl; exact hn hb)⟩
theorem Kept.trans {S : List Nat} {w w1 w2 : World} (h : Kept S w w1) (k : Kept S w1 w2) : Kept S w w2 :=
  ⟨k.os.trans h.os, k.tape.trans h.tape, k.output.trans h.output, Nat.le_trans h.size k.size, fun i hi hn => (k.block i (Nat.lt_of_lt_of_le hi h.size) hn).trans (h.block i hi hn)⟩
/-- .. where what is written besides is new. -/
theorem Kept.trans' {S S2 : List Nat} {w w1 w2 : World} (h : Kept S w w1) (k : Kept S2 w1 w2) (hS : ∀ i, i ∈ S2 → i ∈ S ∨ w.heap.size ≤ i) : Kept S w w2 :=
  ⟨k.os.trans h.os, k.tape.trans h.tape, k.output.trans h.output, Nat.le_trans h.size k.size, fun i hi hn => (k.block i (Nat.lt_of_lt_of_le hi h.size) (fun hm => by rcases hS i hm with h2 | h2; (exact hn h2); omega)).trans (h.block i hi hn)⟩
theorem Kept.mono {S S2 : List Nat} {w w' : World} (h : Kept S w w') (hS : ∀ i, i ∈ S → i ∈ S2) : Kept S2 w w' := ⟨h.os, h.tape, h.output, h.size, fun i hi hn => h.block i hi (fun hm => hn (hS i hm))⟩
theorem Kept.below {S : List Nat} {w0 w w' : World} {base : Nat} (h : Below base w0 w) (k : Kept S w w') (hS : ∀ i ∈ S, base ≤ i) (hs : base ≤ w.heap.size) : Below base w0 w' :=
  ⟨k.os.trans h.os, k.tape.trans h.tape, k.output.trans h.output, Nat.le_trans h.size k.size, fun i hi => (k.block i (Nat.lt_of_lt_of_le hi hs) (fun hm => by have := hS i hm; omega)).trans (h.block i hi)⟩
theorem Kept.cell {S : List Nat} {w w' : World} (h : Kept S w w') {a : Addr} (hl : a.block < w.heap.size) (hn : a.block ∉ S) : w'.cell? a = w.cell? a := World.cell?_of_block (h.block _ hl hn)
theorem Kept.frozen {S : List Nat} {w w' : World} (h : Kept S w w') {a : Addr} (hl : a.block < w.heap.size) (hn : a.block ∉ S) : w'.frozen? a = w.frozen? a := World.frozen?_of_block (h.block _ hl hn)
theorem Kept.setCell {S : List Nat} {w : World} {b o : Nat} {v : Value} (hb : b ∈ S) : Kept S w (w.setCell ⟨b, o, none⟩ v) := Kept.of_grown (Lib.grownBy_setCell w b o v) hb
theorem frozen_below {w w' : World} (hb : Below w.heap.size w w') {a : Addr} (ha : a.block < w.heap.size) : w'.frozen? a = w.frozen? a := World.frozen?_of_block (hb.block _ ha)

/-- A device, plainly. -/
structure Dv where
  n : Int
  media : Int → Option Int
  cache : Int → Option Int
  way : Int → Option Int
  armed : Int
  dead : Bool
  events : Int

/-- A device that lies at t, its maps at m, c and y; its words' places are among these. -/
structure DevIs (w : World) (t m c y : Nat) (T : List Int) (d : Dv) : Prop where
  c0 : w.cell? ⟨t, 0, none⟩ = some (.int .i64 d.n)
  c1 : w.cell? ⟨t, 1, none⟩ = some (.map (some m))
  c2 : w.cell? ⟨t, 2, none⟩ = some (.map (some c))
  c3 : w.cell? ⟨t, 3, none⟩ = some (.map (some y))
  c4 : w.cell? ⟨t, 4, none⟩ = some (.int .i64 d.armed)
  c5 : w.cell? ⟨t, 5, none⟩ = some (.bool d.dead)
  c6 : w.cell? ⟨t, 6, none⟩ = some (.int .i64 d.events)
  fr : ∀ o, w.frozen? ⟨t, o, none⟩ = false
  tl : t < w.heap.size
  ne : t ≠ m ∧ t ≠ c ∧ t ≠ y ∧ m ≠ c ∧ m ≠ y ∧ c ≠ y
  mm : MapF w m d.media
  mc : MapF w c d.cache
  my : MapF w y d.way
  am : Among T d.media
  ac : Among T d.cache
  ay : Among T d.way
  tf : T.length < 100000
  nb : 0 ≤ d.n ∧ d.n ≤ 33554432
  ab : 0 ≤ d.armed ∧ d.armed < 9223372036854775808
  eb : 0 ≤ d.events ∧ d.events < 1000000000

theorem DevIs.lt {w : World} {t m c y : Nat} {T : List Int} {d : Dv} (h : DevIs w t m c y T d) : ∀ i ∈ [t, m, c, y], i < w.heap.size := by
  intro i hi
  simp only [List.mem_cons, List.not_mem_nil, or_false] at hi
  rcases hi with rfl | rfl | rfl | rfl
  · exact h.tl
  · exact h.mm.lt
  · exact h.mc.lt
  · exact h.my.lt
/-- The device's own blocks are as they were. -/
theorem DevIs.same {w w' : World} {t m c y : Nat} {T : List Int} {d : Dv} (h : DevIs w t m c y T d) (hs : w.heap.size ≤ w'.heap.size) (hb : ∀ i ∈ [t, m, c, y], w'.heap[i]? = w.heap[i]?) : DevIs w' t m c y T d := by
  have ht := hb t (by simp)
  have e : ∀ o, w'.cell? ⟨t, o, none⟩ = w.cell? ⟨t, o, none⟩ := fun o => World.cell?_of_block ht
  exact ⟨(e 0).trans h.c0, (e 1).trans h.c1, (e 2).trans h.c2, (e 3).trans h.c3, (e 4).trans h.c4, (e 5).trans h.c5, (e 6).trans h.c6, fun o => (World.frozen?_of_block (a := ⟨t, o, none⟩) ht).trans (h.fr o), Nat.lt_of_lt_of_le h.tl hs, h.ne,
    h.mm.block (hb m (by simp)), h.mc.block (hb c (by simp)), h.my.block (hb y (by simp)), h.am, h.ac, h.ay, h.tf, h.nb, h.ab, h.eb⟩
theorem DevIs.below {w w' : World} {t m c y : Nat} {T : List Int} {d : Dv} (h : DevIs w t m c y T d) (hb : Below w.heap.size w w') : DevIs w' t m c y T d :=
  h.same hb.size (fun i hi => hb.block i (h.lt i hi))
theorem DevIs.kept {S : List Nat} {w w' : World} {t m c y : Nat} {T : List Int} {d : Dv} (h : DevIs w t m c y T d) (hk : Kept S w w') (hS : ∀ i ∈ [t, m, c, y], i ∉ S) : DevIs w' t m c y T d :=
  h.same hk.size (fun i hi => hk.block i (h.lt i hi) (hS i hi))

def Dv.stays (d : Dv) (i : Int) : Int := (d.media i).getD 0
def Dv.holds (d : Dv) (i : Int) : Int := (d.cache i).getD (d.stays i)
def Dv.lines (d : Dv) : Int := (d.n + 7) / 8

set_option maxHeartbeats 1600000 in
theorem ok_cell {w : World} {t m : Nat} (hc : w.cell? ⟨t, 1, none⟩ = some (.map (some m))) : Calls Try.prog 46 #[.pointer (some ⟨t, 0, none⟩)] w fun e w' => e = .returned (.bool true) ∧ w' = w := by
  have hq : ∀ (w : World) (r : Option Nat), (binOp .neq 79 (.map r) (.map none)).run Try.prog w = .ok (.bool (!r.isNone)) w := fun w r => run_neq_map_nil w _ _ _ r Try.underlying79
  go_enter Try.func46, Try.ntmps46
  go_wp2
  go_ret
  exact ⟨rfl, rfl⟩
set_option maxHeartbeats 1600000 in
theorem ok_nil (w : World) : Calls Try.prog 46 #[.pointer none] w fun e w' => e = .returned (.bool false) ∧ w' = w := by
  go_enter Try.func46, Try.ntmps46
  go_wp2
  go_ret
  exact ⟨rfl, rfl⟩

section
variable {w : World} {t m c y : Nat} {T : List Int} {d : Dv}
set_option maxHeartbeats 1600000 in
theorem words_any (h : DevIs w t m c y T d) : Calls Try.prog 31 #[.pointer (some ⟨t, 0, none⟩)] w fun e w' => e = .returned (.int .i64 d.n) ∧ w' = w := by
  have hc := h.c0
  have CO := Lib.hid (ok_cell h.c1)
  clear h
  go_enter Try.func31, Try.ntmps31
  go_wp2_with (go_at_call 46; refine (CO.out).mono ?_; rintro e w' ⟨rfl, hw⟩; rw [hw]; clear hw w')
  go_ret
  exact ⟨rfl, rfl⟩
theorem words_nil (w : World) : Calls Try.prog 31 #[.pointer none] w fun e w' => e = .returned (.int .i64 0) ∧ w' = w := by
  have CO := Lib.hid (ok_nil w)
  go_enter Try.func31, Try.ntmps31
  go_wp2_with (go_at_call 46; refine (CO.out).mono ?_; rintro e w' ⟨rfl, hw⟩; rw [hw]; clear hw w')
  go_ret
  exact ⟨rfl, rfl⟩
set_option maxHeartbeats 1600000 in
theorem lines_any (h : DevIs w t m c y T d) : Calls Try.prog 48 #[.pointer (some ⟨t, 0, none⟩)] w fun e w' => e = .returned (.int .i64 d.lines) ∧ w' = w := by
  have CO := Lib.hid (words_any h)
  obtain ⟨hn0, hn1⟩ := h.nb
  unfold Dv.lines
  generalize d.n = n at *
  clear h
  have hd : (n + 7) / 8 = (n + 8 - 1) / 8 := by rw [show n + 8 - 1 = n + 7 by omega]
  have HD := Lib.hid hd
  clear hd
  go_enter Try.func48, Try.ntmps48
  go_wp2_with (go_at_call 31; refine (CO.out).mono ?_; rintro e w' ⟨rfl, hw⟩; rw [hw]; clear hw w')
  go_ret
  rw [HD.out]
  exact ⟨by rfl, rfl⟩
theorem lines_nil (w : World) : Calls Try.prog 48 #[.pointer none] w fun e w' => e = .returned (.int .i64 0) ∧ w' = w := by
  have CO := Lib.hid (words_nil w)
  go_enter Try.func48, Try.ntmps48
  go_wp2_with (go_at_call 31; refine (CO.out).mono ?_; rintro e w' ⟨rfl, hw⟩; rw [hw]; clear hw w')
  go_ret
  exact ⟨rfl, rfl⟩

/-- Why nothing can be done. -/
def faultD (dead : Bool) (i many : Int) : Int := if dead = true then 5 else if i < 0 ∨ many ≤ i then 90 else 0
set_option maxHeartbeats 1600000 in
theorem fault_any (h : DevIs w t m c y T d) (i many : Int) : Calls Try.prog 47 #[.pointer (some ⟨t, 0, none⟩), .int .i64 i, .int .i64 many] w fun e w' => e = .returned (.int .i64 (faultD d.dead i many)) ∧ w' = w := by
  have hc := h.c5
  have CO := Lib.hid (ok_cell h.c1)
  clear h
  generalize d.dead = dd at *
  cases dd with
  | true =>
    rw [show faultD true i many = 5 from rfl]
    go_enter Try.func47, Try.ntmps47
    go_wp2_with (go_at_call 46; refine (CO.out).mono ?_; rintro e w' ⟨rfl, hw⟩; rw [hw]; clear hw w')
    go_ret
    exact ⟨rfl, rfl⟩
  | false =>
    by_cases h0 : i < 0
    · rw [show faultD false i many = 90 from by unfold faultD; rw [if_neg (by simp), if_pos (.inl h0)]]
      go_enter Try.func47, Try.ntmps47
      go_wp2_with (go_at_call 46; refine (CO.out).mono ?_; rintro e w' ⟨rfl, hw⟩; rw [hw]; clear hw w')
      go_ret
      exact ⟨rfl, rfl⟩
    · by_cases h1 : many ≤ i
      · rw [show faultD false i many = 90 from by unfold faultD; rw [if_neg (by simp), if_pos (.inr h1)]]
        go_enter Try.func47, Try.ntmps47
        go_wp2_with (go_at_call 46; refine (CO.out).mono ?_; rintro e w' ⟨rfl, hw⟩; rw [hw]; clear hw w')
        go_ret
        exact ⟨rfl, rfl⟩
      · rw [show faultD false i many = 0 from by unfold faultD; rw [if_neg (by simp), if_neg (by omega)]]
        go_enter Try.func47, Try.ntmps47
        go_wp2_with (go_at_call 46; refine (CO.out).mono ?_; rintro e w' ⟨rfl, hw⟩; rw [hw]; clear hw w')
        go_ret
        exact ⟨rfl, rfl⟩
theorem fault_nil (w : World) (i many : Int) : Calls Try.prog 47 #[.pointer none, .int .i64 i, .int .i64 many] w fun e w' => e = .returned (.int .i64 91) ∧ w' = w := by
  have CO := Lib.hid (ok_nil w)
  go_enter Try.func47, Try.ntmps47
  go_wp2_with (go_at_call 46; refine (CO.out).mono ?_; rintro e w' ⟨rfl, hw⟩; rw [hw]; clear hw w')
  go_ret
  exact ⟨rfl, rfl⟩

set_option maxHeartbeats 1600000 in
theorem holds_any (h : DevIs w t m c y T d) {i : Int} (hi : W64 i) : Calls Try.prog 63 #[.pointer (some ⟨t, 0, none⟩), .int .i64 i] w fun e w' => e = .returned (.int .u64 (d.holds i)) ∧ w' = w := by
  have hc1 := h.c1
  have hc2 := h.c2
  have L1 := (h.mm.look hi).1
  have L2 := (h.mc.look hi).2
  unfold Dv.holds Dv.stays
  clear h
  generalize d.media i = a at *
  generalize d.cache i = b at *
  cases b with
  | none =>
    go_enter Try.func63, Try.ntmps63
    go_wp2
    go_ret
    exact ⟨rfl, rfl⟩
  | some v =>
    go_enter Try.func63, Try.ntmps63
    go_wp2
    go_ret
    exact ⟨rfl, rfl⟩
set_option maxHeartbeats 1600000 in
theorem stays_any (h : DevIs w t m c y T d) {i : Int} (hi : W64 i) : Calls Try.prog 24 #[.pointer (some ⟨t, 0, none⟩), .int .i64 i] w fun e w' => e = .returned (.int .u64 (d.stays i)) ∧ w' = w := by
  have hc1 := h.c1
  have L1 := (h.mm.look hi).1
  have CO := Lib.hid (ok_cell h.c1)
  unfold Dv.stays
  clear h
  generalize d.media i = a at *
  go_enter Try.func24, Try.ntmps24
  go_wp2_with (go_at_call 46; refine (CO.out).mono ?_; rintro e w' ⟨rfl, hw⟩; rw [hw]; clear hw w')
  go_ret
  exact ⟨rfl, rfl⟩
theorem stays_nil (w : World) (i : Int) : Calls Try.prog 24 #[.pointer none, .int .i64 i] w fun e w' => e = .returned (.int .u64 0) ∧ w' = w := by
  have CO := Lib.hid (ok_nil w)
  go_enter Try.func24, Try.ntmps24
  go_wp2_with (go_at_call 46; refine (CO.out).mono ?_; rintro e w' ⟨rfl, hw⟩; rw [hw]; clear hw w')
  go_ret
  exact ⟨rfl, rfl⟩
set_option maxHeartbeats 1600000 in
theorem load_any (h : DevIs w t m c y T d) {i : Int} (hi : W64 i) : Calls Try.prog 23 #[.pointer (some ⟨t, 0, none⟩), .int .i64 i] w fun e w' => e = .returned (.tuple #[.int .u64 (if faultD d.dead i d.n = 0 then d.holds i else 0), .int .i64 (faultD d.dead i d.n)]) ∧ w' = w := by
  have CW := Lib.hid (words_any h)
  have CF := Lib.hid (fault_any h i d.n)
  have CH := Lib.hid (holds_any h hi)
  clear h
  generalize faultD d.dead i d.n = f at *
  generalize d.holds i = v at *
  generalize d.n = n at *
  by_cases hf : f = 0
  · subst hf
    go_enter Try.func23, Try.ntmps23
    go_wp2_with (first
      | (go_at_call 31; refine (CW.out).mono ?_; rintro e w' ⟨rfl, hw⟩; rw [hw]; clear hw w')
      | (go_at_call 47; refine (CF.out).mono ?_; rintro e w' ⟨rfl, hw⟩; rw [hw]; clear hw w')
      | (go_at_call 63; refine (CH.out).mono ?_; rintro e w' ⟨rfl, hw⟩; rw [hw]; clear hw w'))
    go_ret2
    exact ⟨rfl, rfl⟩
  · have hfb : (f != 0) = true := by simp [hf]
    rw [if_neg hf]
    go_enter Try.func23, Try.ntmps23
    go_wp2_with (first
      | (go_at_call 31; refine (CW.out).mono ?_; rintro e w' ⟨rfl, hw⟩; rw [hw]; clear hw w')
      | (go_at_call 47; refine (CF.out).mono ?_; rintro e w' ⟨rfl, hw⟩; rw [hw]; clear hw w'))
    go_ret2
    exact ⟨rfl, rfl⟩
theorem load_nil (w : World) (i : Int) : Calls Try.prog 23 #[.pointer none, .int .i64 i] w fun e w' => e = .returned (.tuple #[.int .u64 0, .int .i64 91]) ∧ w' = w := by
  have CW := Lib.hid (words_nil w)
  have CF := Lib.hid (fault_nil w i 0)
  go_enter Try.func23, Try.ntmps23
  go_wp2_with (first
    | (go_at_call 31; refine (CW.out).mono ?_; rintro e w' ⟨rfl, hw⟩; rw [hw]; clear hw w')
    | (go_at_call 47; refine (CF.out).mono ?_; rintro e w' ⟨rfl, hw⟩; rw [hw]; clear hw w'))
  go_ret2
  exact ⟨rfl, rfl⟩
set_option maxHeartbeats 1600000 in
theorem deadD_any (h : DevIs w t m c y T d) : Calls Try.prog 18 #[.pointer (some ⟨t, 0, none⟩)] w fun e w' => e = .returned (.bool d.dead) ∧ w' = w := by
  have hc := h.c5
  have CO := Lib.hid (ok_cell h.c1)
  clear h
  go_enter Try.func18, Try.ntmps18
  go_wp2_with (go_at_call 46; refine (CO.out).mono ?_; rintro e w' ⟨rfl, hw⟩; rw [hw]; clear hw w')
  go_ret
  exact ⟨rfl, rfl⟩
theorem deadD_nil (w : World) : Calls Try.prog 18 #[.pointer none] w fun e w' => e = .returned (.bool false) ∧ w' = w := by
  have CO := Lib.hid (ok_nil w)
  go_enter Try.func18, Try.ntmps18
  go_wp2_with (go_at_call 46; refine (CO.out).mono ?_; rintro e w' ⟨rfl, hw⟩; rw [hw]; clear hw w')
  go_ret
  exact ⟨rfl, rfl⟩
set_option maxHeartbeats 1600000 in
theorem events_any (h : DevIs w t m c y T d) : Calls Try.prog 19 #[.pointer (some ⟨t, 0, none⟩)] w fun e w' => e = .returned (.int .i64 d.events) ∧ w' = w := by
  have hc := h.c6
  have CO := Lib.hid (ok_cell h.c1)
  clear h
  go_enter Try.func19, Try.ntmps19
  go_wp2_with (go_at_call 46; refine (CO.out).mono ?_; rintro e w' ⟨rfl, hw⟩; rw [hw]; clear hw w')
  go_ret
  exact ⟨rfl, rfl⟩
theorem events_nil (w : World) : Calls Try.prog 19 #[.pointer none] w fun e w' => e = .returned (.int .i64 0) ∧ w' = w := by
  have CO := Lib.hid (ok_nil w)
  go_enter Try.func19, Try.ntmps19
  go_wp2_with (go_at_call 46; refine (CO.out).mono ?_; rintro e w' ⟨rfl, hw⟩; rw [hw]; clear hw w')
  go_ret
  exact ⟨rfl, rfl⟩
end
end Go.Proofs.Ytdnoniolpplgiaa
