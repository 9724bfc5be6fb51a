/- What Next, Eager, Plain, the closure of scorer and the references on floats compute: contracts. -/
import Derived.Test.YtkakhjaaakophaaProg
import Derived.Test.YtkakhjaaakophaaFloat2
import Derived.WalkKit
import Derived.WalkSpells
import Derived.WalkLawsBesides
import Derived.Lib.Hide
import Derived.BigQuiet
import Derived.Deep.RegionHeld3
namespace Go.Proofs.Ytkakhjaaakophaa
open Go.RowKit Fl

/-- A policy, as a value. -/
def pv (k g l : Nat) : Value := .agg #[.float .f64 k, .float .f64 g, .float .f64 l]

@[go_sem] theorem run_store_float {P : Program} {w : World} {a : Addr} {m : Mode} (k : FloatKind) (x : Nat) : (store a (.float k x) m).run P w = stored P w a (.float k x) m := run_store P w a _ m rfl
theorem below_drewN {B : Nat} {a w : World} (h : Below B a w) (n : Nat) : Below B a (w.drewN n) := ⟨h.os, h.tape, h.output, h.size, h.block⟩

/-- A product: of an answer, itself; of none, some float that is no number, and a draw. -/
theorem mul_run (x y : Nat) : (∃ z, ab z = amul (ab x) (ab y) ∧ ∀ (P : Program) (t : TypeId) w, (binOp .mul t (.float .f64 x) (.float .f64 y)).run P w = .ok (.float .f64 z) w) ∨
    (∀ w : World, ∃ z, ab z = amul (ab x) (ab y) ∧ ∀ (P : Program) (t : TypeId), (binOp .mul t (.float .f64 x) (.float .f64 y)).run P w = .ok (.float .f64 z) w.drew) := by
  cases h : Ieee.double.mul x y with
  | some z => exact .inl ⟨z, mul_res (.inl h), fun P t w => run_float_arith w .mul t .f64 x y z h⟩
  | none =>
    refine .inr fun w => ⟨Question.cut (.nanBits .f64 x y) (w.tape w.drawn (.nanBits .f64 x y)), mul_res (.inr ⟨h, nan_drawn _ _ _⟩), fun P t => ?_⟩
    have h' : FloatKind.f64.format.mul x y = none := h
    simp [binOp, Op.floatArith, h', choose, Sem.run, Question.forced]

theorem add_run (x y : Nat) : (∃ z, ab z = aadd (ab x) (ab y) ∧ ∀ (P : Program) (t : TypeId) w, (binOp .add t (.float .f64 x) (.float .f64 y)).run P w = .ok (.float .f64 z) w) ∨
    (∀ w : World, ∃ z, ab z = aadd (ab x) (ab y) ∧ ∀ (P : Program) (t : TypeId), (binOp .add t (.float .f64 x) (.float .f64 y)).run P w = .ok (.float .f64 z) w.drew) := by
  cases h : Ieee.double.add x y with
  | some z => exact .inl ⟨z, add_res (.inl h), fun P t w => run_float_arith w .add t .f64 x y z h⟩
  | none =>
    refine .inr fun w => ⟨Question.cut (.nanBits .f64 x y) (w.tape w.drawn (.nanBits .f64 x y)), add_res (.inr ⟨h, nan_drawn _ _ _⟩), fun P t => ?_⟩
    have h' : FloatKind.f64.format.add x y = none := h
    simp [binOp, Op.floatArith, h', choose, Sem.run, Question.forced]

/-- A step: kept, and more of what was synced. -/
def anext (k g s : Option Nat) (b : Bool) : Option Nat := if b then aadd (amul k s) g else amul k s

/-- The call hands back a float that is told as a; nothing old has turned. -/
def FloatIs (a : Option Nat) (w : World) (e : Ending) (w' : World) : Prop := ∃ r, e = .returned (.float .f64 r) ∧ ab r = a ∧ Below w.heap.size w w'

set_option maxHeartbeats 400000 in
theorem next_no (k g l s : Nat) (w : World) : Calls Try.prog 24 #[pv k g l, .float .f64 s, .bool false] w (FloatIs (amul (ab k) (ab s)) w) := by
  unfold pv
  rcases mul_run k s with ⟨z, hz, hr⟩ | h
  · have hz1 := Lib.hid hz
    clear hz
    have hr1 := hr Try.prog
    clear hr
    go_enter Try.func24, Try.ntmps24
    go_wp2
    go_ret
    exact ⟨z, rfl, hz1.out, (Below.refl _ _).alloc (Nat.le_refl _) _⟩
  · obtain ⟨z, hz, hr⟩ := h (w.alloc (.cells #[.float .f64 k, .float .f64 g, .float .f64 l] 24))
    have hz1 := Lib.hid hz
    clear hz
    have hr1 := hr Try.prog
    clear hr
    go_enter Try.func24, Try.ntmps24
    go_wp2
    go_ret
    exact ⟨z, rfl, hz1.out, ((Below.refl _ _).alloc (Nat.le_refl _) _).drew⟩

set_option maxHeartbeats 400000 in
theorem next_yes (k g l s : Nat) (w : World) : Calls Try.prog 24 #[pv k g l, .float .f64 s, .bool true] w (FloatIs (aadd (amul (ab k) (ab s)) (ab g)) w) := by
  unfold pv
  rcases mul_run k s with ⟨z, hz, hr⟩ | h
  · rw [← hz]
    clear hz
    have hr1 := hr Try.prog
    clear hr
    rcases add_run z g with ⟨y, hy, hs⟩ | h2
    · have hy1 := Lib.hid hy
      clear hy
      have hs1 := hs Try.prog
      clear hs
      go_enter Try.func24, Try.ntmps24
      go_wp2
      go_ret
      exact ⟨y, rfl, hy1.out, ((Below.refl _ _).alloc (Nat.le_refl _) _)⟩
    · obtain ⟨y, hy, hs⟩ := h2 (w.alloc (.cells #[.float .f64 k, .float .f64 g, .float .f64 l] 24))
      clear h2
      have hy1 := Lib.hid hy
      clear hy
      have hs1 := hs Try.prog
      clear hs
      go_enter Try.func24, Try.ntmps24
      go_wp2
      go_ret
      exact ⟨y, rfl, hy1.out, ((Below.refl _ _).alloc (Nat.le_refl _) _).drew⟩
  · obtain ⟨z, hz, hr⟩ := h (w.alloc (.cells #[.float .f64 k, .float .f64 g, .float .f64 l] 24))
    clear h
    rw [← hz]
    clear hz
    have hr1 := hr Try.prog
    clear hr
    rcases add_run z g with ⟨y, hy, hs⟩ | h2
    · have hy1 := Lib.hid hy
      clear hy
      have hs1 := hs Try.prog
      clear hs
      go_enter Try.func24, Try.ntmps24
      go_wp2
      go_ret
      exact ⟨y, rfl, hy1.out, ((Below.refl _ _).alloc (Nat.le_refl _) _).drew⟩
    · obtain ⟨y, hy, hs⟩ := h2 ((w.alloc (.cells #[.float .f64 k, .float .f64 g, .float .f64 l] 24)).drew)
      clear h2
      have hy1 := Lib.hid hy
      clear hy
      have hs1 := hs Try.prog
      clear hs
      go_enter Try.func24, Try.ntmps24
      go_wp2
      go_ret
      exact ⟨y, rfl, hy1.out, ((Below.refl _ _).alloc (Nat.le_refl _) _).drew.drew⟩

theorem next_any (k g l s : Nat) (b : Bool) (w : World) : Calls Try.prog 24 #[pv k g l, .float .f64 s, .bool b] w (FloatIs (anext (ab k) (ab g) (ab s) b) w) := by
  cases b
  · exact next_no k g l s w
  · exact next_yes k g l s w

/-- x is not below y; x is y; x is below y. -/
def ageq (x y : Option Nat) : Bool := aord x y == some .gt || aord x y == some .eq
def aeq (x y : Option Nat) : Bool := aord x y == some .eq
def alss (x y : Option Nat) : Bool := aord x y == some .lt
def aleq (x y : Option Nat) : Bool := aord x y == some .lt || aord x y == some .eq
def agtr (x y : Option Nat) : Bool := aord x y == some .gt

theorem ageq_is (x y : Nat) : ageq (ab x) (ab y) = (FloatKind.f64.format.order x y == some .gt || FloatKind.f64.format.order x y == some .eq) := by unfold ageq; rw [← order_ab]; rfl
theorem aleq_is (x y : Nat) : aleq (ab x) (ab y) = (FloatKind.f64.format.order x y == some .lt || FloatKind.f64.format.order x y == some .eq) := by unfold aleq; rw [← order_ab]; rfl
theorem alss_is (x y : Nat) : alss (ab x) (ab y) = (FloatKind.f64.format.order x y == some .lt) := by unfold alss; rw [← order_ab]; rfl
theorem agtr_is (x y : Nat) : agtr (ab x) (ab y) = (FloatKind.f64.format.order x y == some .gt) := by unfold agtr; rw [← order_ab]; rfl
theorem aeq_is (x y : Nat) : aeq (ab x) (ab y) = (FloatKind.f64.format.order x y == some .eq) := by unfold aeq; rw [← order_ab]; rfl

set_option maxHeartbeats 400000 in
theorem eager_any (k g l s : Nat) (w : World) : Calls Try.prog 13 #[pv k g l, .float .f64 s] w fun e w' => e = .returned (.bool (ageq (ab s) (ab l))) ∧ Below w.heap.size w w' := by
  unfold pv
  rw [ageq_is]
  go_enter Try.func13, Try.ntmps13
  go_wp2
  go_ret
  exact ⟨rfl, (Below.refl _ _).alloc (Nat.le_refl _) _⟩

/-- Are a policy's numbers plain? -/
def plainB (k g l : Option Nat) : Bool := ageq k (ab 0) && (aleq k (ab 4607182418800017408) && (ageq g (ab 0) && (aleq g (ab 9218868437227405311) && aeq l l)))

set_option maxHeartbeats 800000 in
theorem plain_any (k g l : Nat) (w : World) : Calls Try.prog 11 #[pv k g l] w fun e w' => e = .returned (.bool (plainB (ab k) (ab g) (ab l))) ∧ Below w.heap.size w w' := by
  unfold pv plainB
  rw [ageq_is, aleq_is, ageq_is, aleq_is, aeq_is]
  cases h1 : (FloatKind.f64.format.order k 0 == some .gt || FloatKind.f64.format.order k 0 == some .eq)
  · go_enter Try.func11, Try.ntmps11
    go_wp2
    go_ret
    exact ⟨rfl, (Below.refl _ _).alloc (Nat.le_refl _) _⟩
  cases h2 : (FloatKind.f64.format.order k 4607182418800017408 == some .lt || FloatKind.f64.format.order k 4607182418800017408 == some .eq)
  · go_enter Try.func11, Try.ntmps11
    go_wp2
    go_ret
    exact ⟨rfl, (Below.refl _ _).alloc (Nat.le_refl _) _⟩
  cases h3 : (FloatKind.f64.format.order g 0 == some .gt || FloatKind.f64.format.order g 0 == some .eq)
  · go_enter Try.func11, Try.ntmps11
    go_wp2
    go_ret
    exact ⟨rfl, (Below.refl _ _).alloc (Nat.le_refl _) _⟩
  cases h4 : (FloatKind.f64.format.order g 9218868437227405311 == some .lt || FloatKind.f64.format.order g 9218868437227405311 == some .eq)
  · go_enter Try.func11, Try.ntmps11
    go_wp2
    go_ret
    exact ⟨rfl, (Below.refl _ _).alloc (Nat.le_refl _) _⟩
  · go_enter Try.func11, Try.ntmps11
    go_wp2
    go_ret
    exact ⟨rfl, (Below.refl _ _).alloc (Nat.le_refl _) _⟩
/-- A score's box, and the closure's copy of a policy. -/
def Boxes (w : World) (a c : Nat) (k g l s : Nat) : Prop := w.heap[a]? = some (.cells #[.float .f64 k, .float .f64 g, .float .f64 l] 24 (0, 0)) ∧ w.heap[c]? = some (.cells #[.float .f64 s] 22 (0, 0))

/-- The closure's call: the new score, in its box; nothing else old has turned. -/
def Stepped (k g l : Nat) (s : Option Nat) (a c : Nat) (w : World) (e : Ending) (w' : World) : Prop := ∃ r, e = .returned (.float .f64 r) ∧ ab r = s ∧ Boxes w' a c k g l r ∧ w.grownBy w' (some c)

set_option maxHeartbeats 400000 in
theorem step_any (a c k g l s : Nat) (b : Bool) (w : World) (hB : Boxes w a c k g l s) (hac : a ≠ c) :
    Calls Try.prog 37 #[.bool b, .pointer (some ⟨a, 0, none⟩), .pointer (some ⟨c, 0, none⟩)] w (Stepped k g l (anext (ab k) (ab g) (ab s) b) a c w) := by
  obtain ⟨ha, hc⟩ := hB
  have C := Lib.hid (fun w => next_any k g l s b w)
  unfold pv at C
  have c0 : w.cell? ⟨a, 0, none⟩ = some (.float .f64 k) := by simp [World.cell?, ha]
  have c1 : w.cell? ⟨a, 1, none⟩ = some (.float .f64 g) := by simp [World.cell?, ha]
  have c2 : w.cell? ⟨a, 2, none⟩ = some (.float .f64 l) := by simp [World.cell?, ha]
  have c3 : w.cell? ⟨c, 0, none⟩ = some (.float .f64 s) := by simp [World.cell?, hc]
  have hcl : c < w.heap.size := (Array.getElem?_eq_some_iff.1 hc).1
  have hal : a < w.heap.size := (Array.getElem?_eq_some_iff.1 ha).1
  have HA := Lib.hid ha
  have HC := Lib.hid hc
  clear ha hc
  generalize anext (ab k) (ab g) (ab s) b = n at *
  go_enter Try.func37, Try.ntmps37
  go_wp2_with (go_at_call 24; refine (C.out _).mono ?_; rintro e w' ⟨r, rfl, hr, hb⟩; have hd0 : w'.cell? ⟨c, 0, none⟩ = some (.float .f64 s) := (hb.cell hcl).trans c3; have hd1 : w'.frozen? ⟨c, 0, none⟩ = false := (hb.frozen hcl).trans (by simp [World.frozen?, HC.out]))
  go_ret
  have hca : c < w'.heap.size := Nat.lt_of_lt_of_le hcl hb.size
  refine ⟨r, rfl, hr, ⟨?_, ?_⟩, ?_⟩
  · rw [Below.heap_setCell _ _ _ _ (by simpa using hac), hb.block a hal]; exact HA.out
  · have hq : w'.heap[c]? = some (.cells #[.float .f64 s] 22 (0, 0)) := (hb.block c hcl).trans HC.out
    simp [World.setCell, Array.getElem?_modify, hq]
  · refine ⟨hb.os, hb.tape, hb.output, by simpa using hb.size, fun j hj hne => ?_⟩
    rw [Below.heap_setCell _ _ _ _ (by rintro rfl; exact hne rfl)]; exact hb.block j hj
end Go.Proofs.Ytkakhjaaakophaa
