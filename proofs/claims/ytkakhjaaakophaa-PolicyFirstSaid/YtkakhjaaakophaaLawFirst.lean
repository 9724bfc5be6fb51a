/- The law PolicyFirst of package sumplaw02: whoever is eager first was lazy ahead; without syncs nobody has a score, of plain numbers. The walk. -/
import Derived.Test.YtkakhjaaakophaaLawSteps
import Derived.Deep.OwnRows
namespace Go.Proofs.Ytkakhjaaakophaa
open Go.RowKit Fl

theorem pf_some {l : Option Nat} : ∀ {xs : List (Option Nat)} {i : Nat}, pf l xs = some i → (∃ x, xs[i]? = some x ∧ ageq x l = true) ∧ ∀ j, j < i → ∀ y, xs[j]? = some y → ageq y l = false
  | [], i, h => by cases h
  | x :: t, i, h => by
    unfold pf at h
    by_cases hx : ageq x l = true
    · rw [if_pos hx] at h; cases h
      exact ⟨⟨x, rfl, hx⟩, fun j hj => absurd hj (Nat.not_lt_zero _)⟩
    · rw [if_neg hx] at h
      cases hp : pf l t with
      | none => rw [hp] at h; cases h
      | some k =>
        rw [hp] at h
        obtain rfl : k + 1 = i := by simpa using h
        obtain ⟨⟨y, hy, hy2⟩, h2⟩ := pf_some hp
        refine ⟨⟨y, by simpa using hy, hy2⟩, fun j hj z hz => ?_⟩
        cases j with
        | zero => simp at hz; subst hz; simpa using hx
        | succ j => exact h2 j (by omega) z (by simpa using hz)

theorem bools_made (w : World) (n : Nat) : Bools (w.alloc (.cells (madeCells #[.bool false] n) 4)) (some ⟨w.heap.size, 0, none⟩) n (List.replicate n false) := by
  refine ⟨by simp, .inr ⟨w.heap.size, 0, rfl, by simp, fun i hi => ?_⟩⟩
  have hi : i < n := by simpa using hi
  rw [Nat.zero_add, cell_of_row _ _ i _ _ _ (heap_alloc_new w _)]
  simp [madeCells, hi, Nat.mod_one]

theorem keepF {w0 w w1 w2 : World} {k g l ga j x : Nat} (hl : w0.heap.size < w.heap.size) (hga : ga < w.heap.size) (h : w1.cell? ⟨w0.heap.size, 0, none⟩ = some (.float .f64 k) ∧ w1.cell? ⟨w0.heap.size, 1, none⟩ = some (.float .f64 g) ∧ w1.cell? ⟨w0.heap.size, 2, none⟩ = some (.float .f64 l) ∧ w1.cell? ⟨ga, j, none⟩ = some (.float .f64 x) ∧ Below w.heap.size w w1) (hb : Below w1.heap.size w1 w2) :
    w2.cell? ⟨w0.heap.size, 0, none⟩ = some (.float .f64 k) ∧ w2.cell? ⟨w0.heap.size, 1, none⟩ = some (.float .f64 g) ∧ w2.cell? ⟨w0.heap.size, 2, none⟩ = some (.float .f64 l) ∧ w2.cell? ⟨ga, j, none⟩ = some (.float .f64 x) ∧ Below w.heap.size w w2 := by
  obtain ⟨h1, h2, h3, h4, h6⟩ := h
  have hs := h6.size
  exact ⟨(hb.cell (Nat.lt_of_lt_of_le hl hs)).trans h1, (hb.cell (Nat.lt_of_lt_of_le hl hs)).trans h2, (hb.cell (Nat.lt_of_lt_of_le hl hs)).trans h3, (hb.cell (Nat.lt_of_lt_of_le hga hs)).trans h4, h6.trans (hb.mono hs)⟩

set_option maxHeartbeats 400000 in
theorem first_many (k g l : Nat) (A : Option Addr) (n cap : Nat) (w : World) (hn : 100 < n) (hm : n ≤ maxLen) : Calls Try.prog 8 #[pv k g l, .slice A n cap] w fun e w' => e = .returned (.bool true) ∧ Below w.heap.size w w' := by
  unfold pv
  unfold maxLen at hm
  have hn1 : (100 : Int) < (n : Int) := by omega
  go_enter Try.func8, Try.ntmps8
  go_wp2_with (go_at_call 10; refine (awake2 _).mono ?_; rintro e w1 ⟨rfl, hb1⟩)
  go_ret
  exact ⟨rfl, ((Below.refl _ _).alloc (Nat.le_refl _) _).trans (hb1.mono (by simp))⟩

set_option maxRecDepth 100000 in
set_option maxHeartbeats 4000000 in
theorem first_few (k g l : Nat) (A : Option Addr) (n cap : Nat) (bs : List Bool) (w : World) (hn : n ≤ 100) (hv : Bools w A n bs) :
    Calls Try.prog 8 #[pv k g l, .slice A n cap] w fun e w' => e = .returned (.bool true) ∧ Below w.heap.size w w' := by
  unfold pv
  have hn1 : ¬ (100 : Int) < (n : Int) := by omega
  have C0 := Ctx.start k g l hv
  clear hv
  go_enter Try.func8, Try.ntmps8
  go_wp2_with fail
  refine (awake2 _).mono ?_
  rintro e w1 ⟨rfl, hb1⟩
  have C1 := C0.step hb1
  obtain ⟨p0, p1, p2⟩ := C1.cells
  have C27 := Lib.hid (first_of k g l cap C1.bools (by omega))
  unfold pv at C27
  generalize ha : afirst (ab k) (ab g) (ab l) (ab 0) bs = o at *
  rw [afirst_pf] at ha
  cases o with
  | none =>
    unfold firstV at C27
    go_wp2_with fail
    refine (C27.out).mono ?_
    rintro e w2 ⟨rfl, hb2⟩
    have C2 := C1.step hb2
    obtain ⟨q0, q1, q2⟩ := C2.cells
    have Ha := Lib.hid ha
    clear C27 ha
    go_wp2_with fail
    have hc := run_of k g l cap C2.bools (by omega)
    unfold pv at hc
    refine hc.mono ?_
    clear hc
    rintro e w3 ⟨v, rs, rfl, hown, hrs, hb3⟩
    have C3 := C2.step hb3
    obtain ⟨r0, r1, r2⟩ := C3.cells
    have hl : (arun (ab k) (ab g) (ab 0) bs).length = n := by rw [arun_length]; exact C2.bools.1
    rw [hl] at hown
    obtain ⟨X, c, rfl⟩ := row_shape hown
    have hwl := C3.lt
    clear C0 C1 C2 hb1 hb2 hb3 p0 p1 p2 q0 q1 q2 hrs hl hown
    go_upto_region 7 with fail
    refine wp_region_held_drew (S := fun w' => w'.cell? ⟨w.heap.size, 0, none⟩ = some (.float .f64 k) ∧ w'.cell? ⟨w.heap.size, 1, none⟩ = some (.float .f64 g) ∧ w'.cell? ⟨w.heap.size, 2, none⟩ = some (.float .f64 l) ∧ Below w3.heap.size w3 w') (by kernel_rfl) ?_ (fun hHeld => ?_)
    · (refine ⟨?_, ?_, ?_, ?_⟩ <;> first | exact (Below.refl _ _).drew | go_keep)
    refine wpAnyH_take (i := 0) (oi := { dst := some 23, op := Op.move (Operand.tmp 7), type := 28, pos := "law.go:89", after := #[], guard := none }) (v := ?vn0) rfl (by kernel_rfl) (by kernel_rfl) (by kernel_rfl) (fun _ _ _ h => h) (Or.inl ⟨by rfl, ?yn0⟩) (by assumption) ?_
    case yn0 => (intro w hSw; (try dsimp only at hSw); go_simp; first | done | with_reducible rfl)
    (try simp only [Act.put, List.setIfInBounds_toArray, List.set_cons_zero, List.set_cons_succ])
    refine wpAnyH_take (i := 1) (oi := { dst := some 24, op := Op.call { callee := Callee.builtin Builtin.len, args := #[Operand.tmp 23], argTypes := #[28] }, type := 3, pos := "law.go:89", after := #[{ on := 0, ground := Ground.data }], guard := none }) (v := ?vn1) rfl (by kernel_rfl) (by kernel_rfl) (by kernel_rfl) (fun _ _ _ h => h) (Or.inl ⟨by rfl, ?yn1⟩) (by assumption) ?_
    case yn1 => (intro w hSw; (try dsimp only at hSw); go_simp; first | done | with_reducible rfl)
    (try simp only [Act.put, List.setIfInBounds_toArray, List.set_cons_zero, List.set_cons_succ])
    refine wpAnyH_take (i := 2) (oi := { dst := some 25, op := Op.move (Operand.tmp 1), type := 25, pos := "law.go:89", after := #[], guard := none }) (v := ?vn2) rfl (by kernel_rfl) (by kernel_rfl) (by kernel_rfl) (fun _ _ _ h => h) (Or.inl ⟨by rfl, ?yn2⟩) (by assumption) ?_
    case yn2 => (intro w hSw; (try dsimp only at hSw); go_simp; first | done | with_reducible rfl)
    (try simp only [Act.put, List.setIfInBounds_toArray, List.set_cons_zero, List.set_cons_succ])
    refine wpAnyH_take (i := 3) (oi := { dst := some 26, op := Op.call { callee := Callee.builtin Builtin.len, args := #[Operand.tmp 25], argTypes := #[25] }, type := 3, pos := "law.go:89", after := #[{ on := 2, ground := Ground.data }], guard := none }) (v := ?vn3) rfl (by kernel_rfl) (by kernel_rfl) (by kernel_rfl) (fun _ _ _ h => h) (Or.inl ⟨by rfl, ?yn3⟩) (by assumption) ?_
    case yn3 => (intro w hSw; (try dsimp only at hSw); go_simp; first | done | with_reducible rfl)
    (try simp only [Act.put, List.setIfInBounds_toArray, List.set_cons_zero, List.set_cons_succ])
    refine wpAnyH_take (i := 4) (oi := { dst := some 27, op := Op.binOp BinOp.neq 3 (Operand.tmp 24) (Operand.tmp 26) 3, type := 4, pos := "law.go:89", after := #[{ on := 1, ground := Ground.data }, { on := 3, ground := Ground.data }], guard := none }) (v := ?vn4) rfl (by kernel_rfl) (by kernel_rfl) (by kernel_rfl) (fun _ _ _ h => h) (Or.inl ⟨by rfl, ?yn4⟩) (by assumption) ?_
    case yn4 => (intro w hSw; (try dsimp only at hSw); go_simp; first | done | with_reducible rfl)
    (try simp only [Act.put, List.setIfInBounds_toArray, List.set_cons_zero, List.set_cons_succ])
    refine wpAnyH_take (i := 5) (oi := { dst := some 28, op := Op.move (Operand.tmp 27), type := 4, pos := "law.go:89", after := #[{ on := 4, ground := Ground.data }], guard := none }) (v := ?vn5) rfl (by kernel_rfl) (by kernel_rfl) (by kernel_rfl) (fun _ _ _ h => h) (Or.inl ⟨by rfl, ?yn5⟩) (by assumption) ?_
    case yn5 => (intro w hSw; (try dsimp only at hSw); go_simp; first | done | with_reducible rfl)
    (try simp only [Act.put, List.setIfInBounds_toArray, List.set_cons_zero, List.set_cons_succ])
    refine wpAnyH_take (i := 6) (oi := { dst := some 29, op := Op.move (Operand.tmp 6), type := 4, pos := "law.go:89", after := #[{ on := 5, ground := Ground.guard }], guard := some (5, false) }) (v := ?vn6) rfl (by kernel_rfl) (by kernel_rfl) (by kernel_rfl) (fun _ _ _ h => h) (Or.inl ⟨by rfl, ?yn6⟩) (by assumption) ?_
    case yn6 => (intro w hSw; (try dsimp only at hSw); go_simp; first | done | with_reducible rfl)
    (try simp only [Act.put, List.setIfInBounds_toArray, List.set_cons_zero, List.set_cons_succ])
    refine wpAnyH_take (i := 7) (oi := { dst := some 30, op := Op.unOp UnOp.not 4 (Operand.tmp 29), type := 4, pos := "law.go:89", after := #[{ on := 6, ground := Ground.data }, { on := 5, ground := Ground.guard }], guard := some (5, false) }) (v := ?vn7) rfl (by kernel_rfl) (by kernel_rfl) (by kernel_rfl) (fun _ _ _ h => h) (Or.inl ⟨by rfl, ?yn7⟩) (by assumption) ?_
    case yn7 => (intro w hSw; (try dsimp only at hSw); go_simp; first | done | with_reducible rfl)
    (try simp only [Act.put, List.setIfInBounds_toArray, List.set_cons_zero, List.set_cons_succ])
    refine wpAnyH_take (i := 8) (oi := { dst := some 31, op := Op.move (Operand.tmp 30), type := 4, pos := "law.go:89", after := #[{ on := 7, ground := Ground.data }, { on := 5, ground := Ground.chain }, { on := 5, ground := Ground.guard }], guard := some (5, false) }) (v := ?vn8) rfl (by kernel_rfl) (by kernel_rfl) (by kernel_rfl) (fun _ _ _ h => h) (Or.inl ⟨by rfl, ?yn8⟩) (by assumption) ?_
    case yn8 => (intro w hSw; (try dsimp only at hSw); go_simp; first | done | with_reducible rfl)
    (try simp only [Act.put, List.setIfInBounds_toArray, List.set_cons_zero, List.set_cons_succ])
    refine wpAnyH_take (i := 9) (oi := { dst := some 32, op := Op.move (Operand.tmp 5), type := 3, pos := "law.go:89", after := #[{ on := 8, ground := Ground.guard }], guard := some (8, true) }) (v := ?vn9) rfl (by kernel_rfl) (by kernel_rfl) (by kernel_rfl) (fun _ _ _ h => h) (Or.inl ⟨by rfl, ?yn9⟩) (by assumption) ?_
    case yn9 => (intro w hSw; (try dsimp only at hSw); go_simp; first | done | with_reducible rfl)
    (try simp only [Act.put, List.setIfInBounds_toArray, List.set_cons_zero, List.set_cons_succ])
    refine wpAnyH_take (i := 10) (oi := { dst := some 33, op := Op.binOp BinOp.neq 3 (Operand.tmp 32) (Operand.const (Value.int IntKind.i64 0)) 3, type := 4, pos := "law.go:89", after := #[{ on := 9, ground := Ground.data }, { on := 8, ground := Ground.guard }], guard := some (8, true) }) (v := ?vn10) rfl (by kernel_rfl) (by kernel_rfl) (by kernel_rfl) (fun _ _ _ h => h) (Or.inl ⟨by rfl, ?yn10⟩) (by assumption) ?_
    case yn10 => (intro w hSw; (try dsimp only at hSw); go_simp; first | done | with_reducible rfl)
    (try simp only [Act.put, List.setIfInBounds_toArray, List.set_cons_zero, List.set_cons_succ])
    refine wpAnyH_take (i := 11) (oi := { dst := some 34, op := Op.pick (Operand.tmp 31) (Operand.tmp 33) (Operand.const (Value.bool false)), type := 4, pos := "law.go:89", after := #[{ on := 8, ground := Ground.data }, { on := 10, ground := Ground.data }, { on := 5, ground := Ground.guard }], guard := some (5, false) }) (v := ?vn11) rfl (by kernel_rfl) (by kernel_rfl) (by kernel_rfl) (fun _ _ _ h => h) (Or.inl ⟨by rfl, ?yn11⟩) (by assumption) ?_
    case yn11 => (intro w hSw; (try dsimp only at hSw); go_simp; first | done | with_reducible rfl)
    (try simp only [Act.put, List.setIfInBounds_toArray, List.set_cons_zero, List.set_cons_succ])
    refine wpAnyH_take (i := 12) (oi := { dst := some 35, op := Op.pick (Operand.tmp 28) (Operand.const (Value.bool true)) (Operand.tmp 34), type := 4, pos := "law.go:89", after := #[{ on := 5, ground := Ground.data }, { on := 11, ground := Ground.data }], guard := none }) (v := ?vn12) rfl (by kernel_rfl) (by kernel_rfl) (by kernel_rfl) (fun _ _ _ h => h) (Or.inl ⟨by rfl, ?yn12⟩) (by assumption) ?_
    case yn12 => (intro w hSw; (try dsimp only at hSw); go_simp; first | done | with_reducible rfl)
    (try simp only [Act.put, List.setIfInBounds_toArray, List.set_cons_zero, List.set_cons_succ])
    refine wpAnyH_take (i := 13) (oi := { dst := some 36, op := Op.move (Operand.tmp 35), type := 4, pos := "law.go:89", after := #[{ on := 12, ground := Ground.data }, { on := 8, ground := Ground.chain }], guard := none }) (v := ?vn13) rfl (by kernel_rfl) (by kernel_rfl) (by kernel_rfl) (fun _ _ _ h => h) (Or.inl ⟨by rfl, ?yn13⟩) (by assumption) ?_
    case yn13 => (intro w hSw; (try dsimp only at hSw); go_simp; first | done | with_reducible rfl)
    (try simp only [Act.put, List.setIfInBounds_toArray, List.set_cons_zero, List.set_cons_succ])
    refine wpAnyH_take (i := 14) (oi := { dst := some 37, op := Op.move (Operand.tmp 6), type := 4, pos := "law.go:89", after := #[{ on := 13, ground := Ground.guard }], guard := some (13, false) }) (v := ?vn14) rfl (by kernel_rfl) (by kernel_rfl) (by kernel_rfl) (fun _ _ _ h => h) (Or.inl ⟨by rfl, ?yn14⟩) (by assumption) ?_
    case yn14 => (intro w hSw; (try dsimp only at hSw); go_simp; first | done | with_reducible rfl)
    (try simp only [Act.put, List.setIfInBounds_toArray, List.set_cons_zero, List.set_cons_succ])
    refine wpAnyH_take (i := 15) (oi := { dst := some 38, op := Op.move (Operand.tmp 37), type := 4, pos := "law.go:89", after := #[{ on := 14, ground := Ground.data }, { on := 13, ground := Ground.chain }, { on := 13, ground := Ground.guard }], guard := some (13, false) }) (v := ?vn15) rfl (by kernel_rfl) (by kernel_rfl) (by kernel_rfl) (fun _ _ _ h => h) (Or.inl ⟨by rfl, ?yn15⟩) (by assumption) ?_
    case yn15 => (intro w hSw; (try dsimp only at hSw); go_simp; first | done | with_reducible rfl)
    (try simp only [Act.put, List.setIfInBounds_toArray, List.set_cons_zero, List.set_cons_succ])
    refine wpAnyH_take (i := 16) (oi := { dst := some 39, op := Op.move (Operand.tmp 5), type := 3, pos := "law.go:89", after := #[{ on := 15, ground := Ground.guard }], guard := some (15, true) }) (v := undef) rfl (by kernel_rfl) (by kernel_rfl) (by kernel_rfl) (fun _ _ _ h => h) (Or.inr ⟨by rfl, rfl⟩) (by assumption) ?_
    (try simp only [Act.put, List.setIfInBounds_toArray, List.set_cons_zero, List.set_cons_succ])
    refine wpAnyH_take (i := 17) (oi := { dst := some 40, op := Op.binOp BinOp.lss 3 (Operand.tmp 39) (Operand.const (Value.int IntKind.i64 0)) 3, type := 4, pos := "law.go:89", after := #[{ on := 16, ground := Ground.data }, { on := 15, ground := Ground.guard }], guard := some (15, true) }) (v := undef) rfl (by kernel_rfl) (by kernel_rfl) (by kernel_rfl) (fun _ _ _ h => h) (Or.inr ⟨by rfl, rfl⟩) (by assumption) ?_
    (try simp only [Act.put, List.setIfInBounds_toArray, List.set_cons_zero, List.set_cons_succ])
    refine wpAnyH_take (i := 18) (oi := { dst := some 41, op := Op.move (Operand.tmp 40), type := 4, pos := "law.go:89", after := #[{ on := 17, ground := Ground.data }, { on := 15, ground := Ground.chain }, { on := 15, ground := Ground.guard }], guard := some (15, true) }) (v := undef) rfl (by kernel_rfl) (by kernel_rfl) (by kernel_rfl) (fun _ _ _ h => h) (Or.inr ⟨by rfl, rfl⟩) (by assumption) ?_
    (try simp only [Act.put, List.setIfInBounds_toArray, List.set_cons_zero, List.set_cons_succ])
    refine wpAnyH_take (i := 19) (oi := { dst := some 42, op := Op.move (Operand.tmp 5), type := 3, pos := "law.go:89", after := #[{ on := 18, ground := Ground.guard }], guard := some (18, false) }) (v := undef) rfl (by kernel_rfl) (by kernel_rfl) (by kernel_rfl) (fun _ _ _ h => h) (Or.inr ⟨by rfl, rfl⟩) (by assumption) ?_
    (try simp only [Act.put, List.setIfInBounds_toArray, List.set_cons_zero, List.set_cons_succ])
    refine wpAnyH_take (i := 20) (oi := { dst := some 43, op := Op.move (Operand.tmp 1), type := 25, pos := "law.go:89", after := #[{ on := 18, ground := Ground.guard }], guard := some (18, false) }) (v := undef) rfl (by kernel_rfl) (by kernel_rfl) (by kernel_rfl) (fun _ _ _ h => h) (Or.inr ⟨by rfl, rfl⟩) (by assumption) ?_
    (try simp only [Act.put, List.setIfInBounds_toArray, List.set_cons_zero, List.set_cons_succ])
    refine wpAnyH_take (i := 21) (oi := { dst := some 44, op := Op.call { callee := Callee.builtin Builtin.len, args := #[Operand.tmp 43], argTypes := #[25] }, type := 3, pos := "law.go:89", after := #[{ on := 20, ground := Ground.data }, { on := 18, ground := Ground.guard }], guard := some (18, false) }) (v := undef) rfl (by kernel_rfl) (by kernel_rfl) (by kernel_rfl) (fun _ _ _ h => h) (Or.inr ⟨by rfl, rfl⟩) (by assumption) ?_
    (try simp only [Act.put, List.setIfInBounds_toArray, List.set_cons_zero, List.set_cons_succ])
    refine wpAnyH_take (i := 22) (oi := { dst := some 45, op := Op.binOp BinOp.geq 3 (Operand.tmp 42) (Operand.tmp 44) 3, type := 4, pos := "law.go:89", after := #[{ on := 19, ground := Ground.data }, { on := 21, ground := Ground.data }, { on := 18, ground := Ground.guard }], guard := some (18, false) }) (v := undef) rfl (by kernel_rfl) (by kernel_rfl) (by kernel_rfl) (fun _ _ _ h => h) (Or.inr ⟨by rfl, rfl⟩) (by assumption) ?_
    (try simp only [Act.put, List.setIfInBounds_toArray, List.set_cons_zero, List.set_cons_succ])
    refine wpAnyH_take (i := 23) (oi := { dst := some 46, op := Op.pick (Operand.tmp 41) (Operand.const (Value.bool true)) (Operand.tmp 45), type := 4, pos := "law.go:89", after := #[{ on := 18, ground := Ground.data }, { on := 22, ground := Ground.data }, { on := 15, ground := Ground.guard }], guard := some (15, true) }) (v := undef) rfl (by kernel_rfl) (by kernel_rfl) (by kernel_rfl) (fun _ _ _ h => h) (Or.inr ⟨by rfl, rfl⟩) (by assumption) ?_
    (try simp only [Act.put, List.setIfInBounds_toArray, List.set_cons_zero, List.set_cons_succ])
    refine wpAnyH_take (i := 24) (oi := { dst := some 47, op := Op.move (Operand.tmp 46), type := 4, pos := "law.go:89", after := #[{ on := 23, ground := Ground.data }, { on := 18, ground := Ground.chain }, { on := 15, ground := Ground.guard }], guard := some (15, true) }) (v := undef) rfl (by kernel_rfl) (by kernel_rfl) (by kernel_rfl) (fun _ _ _ h => h) (Or.inr ⟨by rfl, rfl⟩) (by assumption) ?_
    (try simp only [Act.put, List.setIfInBounds_toArray, List.set_cons_zero, List.set_cons_succ])
    refine wpAnyH_take (i := 25) (oi := { dst := some 48, op := Op.load 24 (Operand.tmp 2), type := 24, pos := "law.go:89", after := #[{ on := 24, ground := Ground.guard }], guard := some (24, false) }) (v := undef) rfl (by kernel_rfl) (by kernel_rfl) (by kernel_rfl) (fun _ _ _ h => h) (Or.inr ⟨by rfl, rfl⟩) (by assumption) ?_
    (try simp only [Act.put, List.setIfInBounds_toArray, List.set_cons_zero, List.set_cons_succ])
    refine wpAnyH_take (i := 26) (oi := { dst := some 49, op := Op.move (Operand.tmp 7), type := 28, pos := "law.go:89", after := #[{ on := 24, ground := Ground.guard }], guard := some (24, false) }) (v := undef) rfl (by kernel_rfl) (by kernel_rfl) (by kernel_rfl) (fun _ _ _ h => h) (Or.inr ⟨by rfl, rfl⟩) (by assumption) ?_
    (try simp only [Act.put, List.setIfInBounds_toArray, List.set_cons_zero, List.set_cons_succ])
    refine wpAnyH_take (i := 27) (oi := { dst := some 50, op := Op.move (Operand.tmp 5), type := 3, pos := "law.go:89", after := #[{ on := 24, ground := Ground.guard }], guard := some (24, false) }) (v := undef) rfl (by kernel_rfl) (by kernel_rfl) (by kernel_rfl) (fun _ _ _ h => h) (Or.inr ⟨by rfl, rfl⟩) (by assumption) ?_
    (try simp only [Act.put, List.setIfInBounds_toArray, List.set_cons_zero, List.set_cons_succ])
    refine wpAnyH_take (i := 28) (oi := { dst := some 51, op := Op.indexAddr 28 (Operand.tmp 49) (Operand.tmp 50), type := 0, pos := "law.go:89", after := #[{ on := 26, ground := Ground.data }, { on := 27, ground := Ground.data }, { on := 24, ground := Ground.guard }], guard := some (24, false) }) (v := undef) rfl (by kernel_rfl) (by kernel_rfl) (by kernel_rfl) (fun _ _ _ h => h) (Or.inr ⟨by rfl, rfl⟩) (by assumption) ?_
    (try simp only [Act.put, List.setIfInBounds_toArray, List.set_cons_zero, List.set_cons_succ])
    refine wpAnyH_take (i := 29) (oi := { dst := some 52, op := Op.load 22 (Operand.tmp 51), type := 22, pos := "law.go:89", after := #[{ on := 28, ground := Ground.data }, { on := 24, ground := Ground.guard }], guard := some (24, false) }) (v := undef) rfl (by kernel_rfl) (by kernel_rfl) (by kernel_rfl) (fun _ _ _ h => h) (Or.inr ⟨by rfl, rfl⟩) (by assumption) ?_
    (try simp only [Act.put, List.setIfInBounds_toArray, List.set_cons_zero, List.set_cons_succ])
    refine wpAnyH_take (i := 30) (oi := { dst := some 53, op := Op.call { callee := Callee.value (Operand.func 13), args := #[Operand.tmp 48, Operand.tmp 52], argTypes := #[24, 22] }, type := 4, pos := "law.go:89", after := #[{ on := 25, ground := Ground.data }, { on := 29, ground := Ground.data }, { on := 24, ground := Ground.chain }, { on := 24, ground := Ground.guard }], guard := some (24, false) }) (v := undef) rfl (by kernel_rfl) (by kernel_rfl) (by kernel_rfl) (fun _ _ _ h => h) (Or.inr ⟨by rfl, rfl⟩) (by assumption) ?_
    (try simp only [Act.put, List.setIfInBounds_toArray, List.set_cons_zero, List.set_cons_succ])
    refine wpAnyH_take (i := 31) (oi := { dst := some 54, op := Op.unOp UnOp.not 4 (Operand.tmp 53), type := 4, pos := "law.go:89", after := #[{ on := 30, ground := Ground.data }, { on := 24, ground := Ground.guard }], guard := some (24, false) }) (v := undef) rfl (by kernel_rfl) (by kernel_rfl) (by kernel_rfl) (fun _ _ _ h => h) (Or.inr ⟨by rfl, rfl⟩) (by assumption) ?_
    (try simp only [Act.put, List.setIfInBounds_toArray, List.set_cons_zero, List.set_cons_succ])
    refine wpAnyH_take (i := 32) (oi := { dst := some 55, op := Op.pick (Operand.tmp 47) (Operand.const (Value.bool true)) (Operand.tmp 54), type := 4, pos := "law.go:89", after := #[{ on := 24, ground := Ground.data }, { on := 31, ground := Ground.data }, { on := 15, ground := Ground.guard }], guard := some (15, true) }) (v := undef) rfl (by kernel_rfl) (by kernel_rfl) (by kernel_rfl) (fun _ _ _ h => h) (Or.inr ⟨by rfl, rfl⟩) (by assumption) ?_
    (try simp only [Act.put, List.setIfInBounds_toArray, List.set_cons_zero, List.set_cons_succ])
    refine wpAnyH_take (i := 33) (oi := { dst := some 56, op := Op.pick (Operand.tmp 38) (Operand.tmp 55) (Operand.const (Value.bool false)), type := 4, pos := "law.go:89", after := #[{ on := 15, ground := Ground.data }, { on := 32, ground := Ground.data }, { on := 13, ground := Ground.guard }], guard := some (13, false) }) (v := ?vn33) rfl (by kernel_rfl) (by kernel_rfl) (by kernel_rfl) (fun _ _ _ h => h) (Or.inl ⟨by rfl, ?yn33⟩) (by assumption) ?_
    case yn33 => (intro w hSw; (try dsimp only at hSw); go_simp; first | done | with_reducible rfl)
    (try simp only [Act.put, List.setIfInBounds_toArray, List.set_cons_zero, List.set_cons_succ])
    refine wpAnyH_take (i := 34) (oi := { dst := some 57, op := Op.pick (Operand.tmp 36) (Operand.const (Value.bool true)) (Operand.tmp 56), type := 4, pos := "law.go:89", after := #[{ on := 13, ground := Ground.data }, { on := 33, ground := Ground.data }], guard := none }) (v := ?vn34) rfl (by kernel_rfl) (by kernel_rfl) (by kernel_rfl) (fun _ _ _ h => h) (Or.inl ⟨by rfl, ?yn34⟩) (by assumption) ?_
    case yn34 => (intro w hSw; (try dsimp only at hSw); go_simp; first | done | with_reducible rfl)
    (try simp only [Act.put, List.setIfInBounds_toArray, List.set_cons_zero, List.set_cons_succ])
    refine wpAnyH_done (by kernel_rfl) ?_ _
    have HBW : Below w.heap.size w w3.drew := C3.below.drew
    have hwW : w.heap.size < w3.drew.heap.size := hwl
    obtain ⟨z0, z1, z2, _⟩ := hHeld
    go_wp2
    refine wp_loop_rounds 1 ?_
    rw [rounds_succ]
    generalize w3.drew = w5 at *
    have CP := plain_any k g l
    unfold pv at CP
    cases hp : plainB (ab k) (ab g) (ab l)
    · rw [hp] at CP
      have CPx := Lib.hid CP
      clear CP hp
      go_upto_region 14 with fail
      refine wp_region_held_drew (S := fun w' => w'.cell? ⟨w.heap.size, 0, none⟩ = some (.float .f64 k) ∧ w'.cell? ⟨w.heap.size, 1, none⟩ = some (.float .f64 g) ∧ w'.cell? ⟨w.heap.size, 2, none⟩ = some (.float .f64 l) ∧ Below w5.heap.size w5 w') (by kernel_rfl) ?_ (fun hHeld => ?_)
      · (refine ⟨?_, ?_, ?_, ?_⟩ <;> first | exact (Below.refl _ _).drew | go_keep)
      refine wpAnyH_take (i := 0) (oi := { dst := some 72, op := Op.load 24 (Operand.tmp 2), type := 24, pos := "law.go:97", after := #[], guard := none }) (v := ?vna0) rfl (by kernel_rfl) (by kernel_rfl) (by kernel_rfl) (fun _ _ _ h => h) (Or.inl ⟨by rfl, ?yna0⟩) (by assumption) ?_
      case yna0 => (intro w hSw; (try dsimp only at hSw); go_simp; first | done | with_reducible rfl)
      (try simp only [Act.put, List.setIfInBounds_toArray, List.set_cons_zero, List.set_cons_succ])
      refine wpAnyH_ready (rs := [1]) (by kernel_rfl) (by simp) ?_
      refine AllReadyH.cons (o := { dst := some 73, op := Op.call { callee := Callee.value (Operand.func 11), args := #[Operand.tmp 72], argTypes := #[24] }, type := 4, pos := "law.go:97", after := #[{ on := 0, ground := Ground.data }], guard := none }) rfl (fun K hK => ?_) AllReadyH.nil
      go_simp
      refine (CPx.out _).mono ?_
      rintro e w9 ⟨rfl, hb9⟩
      refine hK.out _ _ ?_ (fun hHeld => ?_)
      · (try dsimp only); exact keepR hwW (by assumption) hb9
      clear hK K
      (try simp only [Act.put, List.setIfInBounds_toArray, List.set_cons_zero, List.set_cons_succ])
      refine wpAnyH_take (i := 2) (oi := { dst := some 74, op := Op.unOp UnOp.not 4 (Operand.tmp 73), type := 4, pos := "law.go:97", after := #[{ on := 1, ground := Ground.data }], guard := none }) (v := ?vna2) rfl (by kernel_rfl) (by kernel_rfl) (by kernel_rfl) (fun _ _ _ h => h) (Or.inl ⟨by rfl, ?yna2⟩) (by assumption) ?_
      case yna2 => (intro w hSw; (try dsimp only at hSw); go_simp; first | done | with_reducible rfl)
      (try simp only [Act.put, List.setIfInBounds_toArray, List.set_cons_zero, List.set_cons_succ])
      refine wpAnyH_take (i := 3) (oi := { dst := some 75, op := Op.move (Operand.tmp 74), type := 4, pos := "law.go:97", after := #[{ on := 2, ground := Ground.data }, { on := 1, ground := Ground.chain }], guard := none }) (v := ?vna3) rfl (by kernel_rfl) (by kernel_rfl) (by kernel_rfl) (fun _ _ _ h => h) (Or.inl ⟨by rfl, ?yna3⟩) (by assumption) ?_
      case yna3 => (intro w hSw; (try dsimp only at hSw); go_simp; first | done | with_reducible rfl)
      (try simp only [Act.put, List.setIfInBounds_toArray, List.set_cons_zero, List.set_cons_succ])
      refine wpAnyH_take (i := 4) (oi := { dst := some 76, op := Op.load 24 (Operand.tmp 2), type := 24, pos := "law.go:97", after := #[{ on := 3, ground := Ground.guard }], guard := some (3, false) }) (v := undef) rfl (by kernel_rfl) (by kernel_rfl) (by kernel_rfl) (fun _ _ _ h => h) (Or.inr ⟨by rfl, rfl⟩) (by assumption) ?_
      (try simp only [Act.put, List.setIfInBounds_toArray, List.set_cons_zero, List.set_cons_succ])
      refine wpAnyH_take (i := 5) (oi := { dst := some 77, op := Op.move (Operand.tmp 1), type := 25, pos := "law.go:97", after := #[{ on := 3, ground := Ground.guard }], guard := some (3, false) }) (v := undef) rfl (by kernel_rfl) (by kernel_rfl) (by kernel_rfl) (fun _ _ _ h => h) (Or.inr ⟨by rfl, rfl⟩) (by assumption) ?_
      (try simp only [Act.put, List.setIfInBounds_toArray, List.set_cons_zero, List.set_cons_succ])
      refine wpAnyH_take (i := 6) (oi := { dst := some 78, op := Op.call { callee := Callee.builtin Builtin.len, args := #[Operand.tmp 77], argTypes := #[25] }, type := 3, pos := "law.go:97", after := #[{ on := 5, ground := Ground.data }, { on := 3, ground := Ground.guard }], guard := some (3, false) }) (v := undef) rfl (by kernel_rfl) (by kernel_rfl) (by kernel_rfl) (fun _ _ _ h => h) (Or.inr ⟨by rfl, rfl⟩) (by assumption) ?_
      (try simp only [Act.put, List.setIfInBounds_toArray, List.set_cons_zero, List.set_cons_succ])
      refine wpAnyH_take (i := 7) (oi := { dst := some 79, op := Op.makeSlice 25 (Operand.tmp 78) (Operand.tmp 78), type := 25, pos := "law.go:97", after := #[{ on := 6, ground := Ground.data }, { on := 6, ground := Ground.data }, { on := 3, ground := Ground.guard }], guard := some (3, false) }) (v := undef) rfl (by kernel_rfl) (by kernel_rfl) (by kernel_rfl) (fun _ _ _ h => h) (Or.inr ⟨by rfl, rfl⟩) (by assumption) ?_
      (try simp only [Act.put, List.setIfInBounds_toArray, List.set_cons_zero, List.set_cons_succ])
      refine wpAnyH_take (i := 8) (oi := { dst := some 80, op := Op.call { callee := Callee.value (Operand.func 23), args := #[Operand.tmp 76, Operand.tmp 79], argTypes := #[24, 25] }, type := 22, pos := "law.go:97", after := #[{ on := 4, ground := Ground.data }, { on := 7, ground := Ground.data }, { on := 3, ground := Ground.chain }, { on := 3, ground := Ground.guard }], guard := some (3, false) }) (v := undef) rfl (by kernel_rfl) (by kernel_rfl) (by kernel_rfl) (fun _ _ _ h => h) (Or.inr ⟨by rfl, rfl⟩) (by assumption) ?_
      (try simp only [Act.put, List.setIfInBounds_toArray, List.set_cons_zero, List.set_cons_succ])
      refine wpAnyH_take (i := 9) (oi := { dst := some 81, op := Op.binOp BinOp.eql 22 (Operand.tmp 80) (Operand.const (Value.float FloatKind.f64 0)) 22, type := 4, pos := "law.go:97", after := #[{ on := 8, ground := Ground.data }, { on := 3, ground := Ground.guard }], guard := some (3, false) }) (v := undef) rfl (by kernel_rfl) (by kernel_rfl) (by kernel_rfl) (fun _ _ _ h => h) (Or.inr ⟨by rfl, rfl⟩) (by assumption) ?_
      (try simp only [Act.put, List.setIfInBounds_toArray, List.set_cons_zero, List.set_cons_succ])
      refine wpAnyH_take (i := 10) (oi := { dst := some 82, op := Op.pick (Operand.tmp 75) (Operand.const (Value.bool true)) (Operand.tmp 81), type := 4, pos := "law.go:97", after := #[{ on := 3, ground := Ground.data }, { on := 9, ground := Ground.data }], guard := none }) (v := ?vna10) rfl (by kernel_rfl) (by kernel_rfl) (by kernel_rfl) (fun _ _ _ h => h) (Or.inl ⟨by rfl, ?yna10⟩) (by assumption) ?_
      case yna10 => (intro w hSw; (try dsimp only at hSw); go_simp; first | done | with_reducible rfl)
      (try simp only [Act.put, List.setIfInBounds_toArray, List.set_cons_zero, List.set_cons_succ])
      refine wpAnyH_take (i := 11) (oi := { dst := some 4, op := Op.assign (Operand.tmp 82), type := 4, pos := "law.go:97", after := #[{ on := 10, ground := Ground.data }, { on := 8, ground := Ground.chain }, { on := 0, ground := Ground.phase }, { on := 1, ground := Ground.phase }, { on := 2, ground := Ground.phase }, { on := 3, ground := Ground.phase }, { on := 4, ground := Ground.phase }, { on := 5, ground := Ground.phase }, { on := 6, ground := Ground.phase }, { on := 7, ground := Ground.phase }, { on := 8, ground := Ground.phase }, { on := 9, ground := Ground.phase }, { on := 10, ground := Ground.phase }], guard := none }) (v := ?vna11) rfl (by kernel_rfl) (by kernel_rfl) (by kernel_rfl) (fun _ _ _ h => h) (Or.inl ⟨by rfl, ?yna11⟩) (by assumption) ?_
      case yna11 => (intro w hSw; (try dsimp only at hSw); go_simp; first | done | with_reducible rfl)
      (try simp only [Act.put, List.setIfInBounds_toArray, List.set_cons_zero, List.set_cons_succ])
      refine wpAnyH_done (by kernel_rfl) ?_ _
      go_wp2
      go_ret
      exact ⟨by simp, HBW.trans (hHeld.2.2.2.mono HBW.size)⟩
    · rw [hp] at CP
      have CPx := Lib.hid CP
      have hz := none_zero hp n
      have hmk : ∀ w' : World, (Instr.makeSlice 25 (.int .i64 (n : Int)) (.int .i64 (n : Int))).run Try.prog w' = .ok (.slice (some ⟨w'.heap.size, 0, none⟩) n n) (w'.alloc (.cells (madeCells #[.bool false] n) 4)) :=
        run_make_row' 25 4 (.bool false) 1 Try.underlying25 Try.info4 rfl .i64 .i64 n (by omega) (by omega)
      have CS : ∀ w' : World, Calls Try.prog 23 #[.agg #[.float .f64 k, .float .f64 g, .float .f64 l], .slice (some ⟨w'.heap.size, 0, none⟩) n n] (w'.alloc (.cells (madeCells #[.bool false] n) 4)) (FloatIs (ascore (ab k) (ab g) (ab 0) (List.replicate n false)) (w'.alloc (.cells (madeCells #[.bool false] n) 4))) :=
        fun w' => score_of k g l n (bools_made w' n) (by omega)
      have CSx := Lib.hid CS
      clear CP hp CS
      go_upto_region 14 with fail
      go_region_held3 (fun w' => w'.cell? ⟨w.heap.size, 0, none⟩ = some (.float .f64 k) ∧ w'.cell? ⟨w.heap.size, 1, none⟩ = some (.float .f64 g) ∧ w'.cell? ⟨w.heap.size, 2, none⟩ = some (.float .f64 l) ∧ Below w5.heap.size w5 w')
        (first | (refine ⟨?_, ?_, ?_, ?_⟩ <;> first | exact (Below.refl _ _).drew | go_keep) | exact keepR hwW (by assumption) hb9 | exact keepR hwW (by assumption) hb10 | exact keepR hwW (by assumption) (Below.news _ _))
        ((first | (go_at_call 11; refine (CPx.out _).mono ?_; rintro e w9 ⟨rfl, hb9⟩) | (go_at_call 23; refine (CSx.out _).mono ?_; rintro e w10 ⟨r, rfl, hr, hb10⟩; rw [← hr, aeq_is] at hz)))
      have HS10 : w10.cell? ⟨w.heap.size, 0, none⟩ = some (.float .f64 k) ∧ w10.cell? ⟨w.heap.size, 1, none⟩ = some (.float .f64 g) ∧ w10.cell? ⟨w.heap.size, 2, none⟩ = some (.float .f64 l) ∧ Below w5.heap.size w5 w10 := by assumption
      clear hmk CSx CPx
      go_wp2
      go_ret
      exact ⟨by simp, HBW.trans (HS10.2.2.2.mono HBW.size)⟩
  | some i0 =>
    unfold firstV at C27
    go_wp2_with fail
    refine (C27.out).mono ?_
    rintro e w2 ⟨rfl, hb2⟩
    have C2 := C1.step hb2
    obtain ⟨q0, q1, q2⟩ := C2.cells
    have Ha := Lib.hid ha
    clear C27 ha
    go_wp2_with fail
    have hc := run_of k g l cap C2.bools (by omega)
    unfold pv at hc
    refine hc.mono ?_
    clear hc
    rintro e w3 ⟨v, rs, rfl, hown, hrs, hb3⟩
    have C3 := C2.step hb3
    obtain ⟨r0, r1, r2⟩ := C3.cells
    have hl : (arun (ab k) (ab g) (ab 0) bs).length = n := by rw [arun_length]; exact C2.bools.1
    rw [hl] at hown
    obtain ⟨X, c, rfl⟩ := row_shape hown
    have hf := Ha.out
    rw [← hrs] at hf
    obtain ⟨⟨y, hy, hy2⟩, hlazy⟩ := pf_some hf
    have hwl := C3.lt
    have hrl : rs.length = n := by have := hown.1; simpa using this
    have hi0 : i0 < n := by have := (List.getElem?_eq_some_iff.1 hy).1; simp at this; omega
    obtain ⟨ga, rfl, hga, x, hx, hcx⟩ := row_at hown hi0
    have hyx : y = ab x := by rw [List.getElem?_map, hx] at hy; simpa using hy.symm
    subst hyx
    have CE := eager_any k g l x
    unfold pv at CE
    rw [hy2] at CE
    have CEx := Lib.hid CE
    have Hlazy := Lib.hid hlazy
    have Hown := Lib.hid hown
    have hj0 : (0 : Int) ≤ (i0 : Int) := by omega
    have hj1 : (i0 : Int) < (n : Int) := by omega
    have hj2 : ¬ (i0 : Int) < 0 := by omega
    have hj3 : ¬ (n : Int) ≤ (i0 : Int) := by omega
    clear C0 C1 C2 hb1 hb2 hb3 p0 p1 p2 q0 q1 q2 hrs hl hown hlazy CE hy hy2 hf hx Ha
    go_upto_region 7 with fail
    refine wp_region_held_drew (S := fun w' => w'.cell? ⟨w.heap.size, 0, none⟩ = some (.float .f64 k) ∧ w'.cell? ⟨w.heap.size, 1, none⟩ = some (.float .f64 g) ∧ w'.cell? ⟨w.heap.size, 2, none⟩ = some (.float .f64 l) ∧ w'.cell? ⟨ga, i0, none⟩ = some (.float .f64 x) ∧ Below w3.heap.size w3 w') (by kernel_rfl) ?_ (fun hHeld => ?_)
    · (refine ⟨?_, ?_, ?_, ?_, ?_⟩ <;> first | exact (Below.refl _ _).drew | go_keep)
    refine wpAnyH_take (i := 0) (oi := { dst := some 23, op := Op.move (Operand.tmp 7), type := 28, pos := "law.go:89", after := #[], guard := none }) (v := ?vs0) rfl (by kernel_rfl) (by kernel_rfl) (by kernel_rfl) (fun _ _ _ h => h) (Or.inl ⟨by rfl, ?ys0⟩) (by assumption) ?_
    case ys0 => (intro w hSw; (try dsimp only at hSw); go_simp; first | done | with_reducible rfl)
    (try simp only [Act.put, List.setIfInBounds_toArray, List.set_cons_zero, List.set_cons_succ])
    refine wpAnyH_take (i := 1) (oi := { dst := some 24, op := Op.call { callee := Callee.builtin Builtin.len, args := #[Operand.tmp 23], argTypes := #[28] }, type := 3, pos := "law.go:89", after := #[{ on := 0, ground := Ground.data }], guard := none }) (v := ?vs1) rfl (by kernel_rfl) (by kernel_rfl) (by kernel_rfl) (fun _ _ _ h => h) (Or.inl ⟨by rfl, ?ys1⟩) (by assumption) ?_
    case ys1 => (intro w hSw; (try dsimp only at hSw); go_simp; first | done | with_reducible rfl)
    (try simp only [Act.put, List.setIfInBounds_toArray, List.set_cons_zero, List.set_cons_succ])
    refine wpAnyH_take (i := 2) (oi := { dst := some 25, op := Op.move (Operand.tmp 1), type := 25, pos := "law.go:89", after := #[], guard := none }) (v := ?vs2) rfl (by kernel_rfl) (by kernel_rfl) (by kernel_rfl) (fun _ _ _ h => h) (Or.inl ⟨by rfl, ?ys2⟩) (by assumption) ?_
    case ys2 => (intro w hSw; (try dsimp only at hSw); go_simp; first | done | with_reducible rfl)
    (try simp only [Act.put, List.setIfInBounds_toArray, List.set_cons_zero, List.set_cons_succ])
    refine wpAnyH_take (i := 3) (oi := { dst := some 26, op := Op.call { callee := Callee.builtin Builtin.len, args := #[Operand.tmp 25], argTypes := #[25] }, type := 3, pos := "law.go:89", after := #[{ on := 2, ground := Ground.data }], guard := none }) (v := ?vs3) rfl (by kernel_rfl) (by kernel_rfl) (by kernel_rfl) (fun _ _ _ h => h) (Or.inl ⟨by rfl, ?ys3⟩) (by assumption) ?_
    case ys3 => (intro w hSw; (try dsimp only at hSw); go_simp; first | done | with_reducible rfl)
    (try simp only [Act.put, List.setIfInBounds_toArray, List.set_cons_zero, List.set_cons_succ])
    refine wpAnyH_take (i := 4) (oi := { dst := some 27, op := Op.binOp BinOp.neq 3 (Operand.tmp 24) (Operand.tmp 26) 3, type := 4, pos := "law.go:89", after := #[{ on := 1, ground := Ground.data }, { on := 3, ground := Ground.data }], guard := none }) (v := ?vs4) rfl (by kernel_rfl) (by kernel_rfl) (by kernel_rfl) (fun _ _ _ h => h) (Or.inl ⟨by rfl, ?ys4⟩) (by assumption) ?_
    case ys4 => (intro w hSw; (try dsimp only at hSw); go_simp; first | done | with_reducible rfl)
    (try simp only [Act.put, List.setIfInBounds_toArray, List.set_cons_zero, List.set_cons_succ])
    refine wpAnyH_take (i := 5) (oi := { dst := some 28, op := Op.move (Operand.tmp 27), type := 4, pos := "law.go:89", after := #[{ on := 4, ground := Ground.data }], guard := none }) (v := ?vs5) rfl (by kernel_rfl) (by kernel_rfl) (by kernel_rfl) (fun _ _ _ h => h) (Or.inl ⟨by rfl, ?ys5⟩) (by assumption) ?_
    case ys5 => (intro w hSw; (try dsimp only at hSw); go_simp; first | done | with_reducible rfl)
    (try simp only [Act.put, List.setIfInBounds_toArray, List.set_cons_zero, List.set_cons_succ])
    refine wpAnyH_take (i := 6) (oi := { dst := some 29, op := Op.move (Operand.tmp 6), type := 4, pos := "law.go:89", after := #[{ on := 5, ground := Ground.guard }], guard := some (5, false) }) (v := ?vs6) rfl (by kernel_rfl) (by kernel_rfl) (by kernel_rfl) (fun _ _ _ h => h) (Or.inl ⟨by rfl, ?ys6⟩) (by assumption) ?_
    case ys6 => (intro w hSw; (try dsimp only at hSw); go_simp; first | done | with_reducible rfl)
    (try simp only [Act.put, List.setIfInBounds_toArray, List.set_cons_zero, List.set_cons_succ])
    refine wpAnyH_take (i := 7) (oi := { dst := some 30, op := Op.unOp UnOp.not 4 (Operand.tmp 29), type := 4, pos := "law.go:89", after := #[{ on := 6, ground := Ground.data }, { on := 5, ground := Ground.guard }], guard := some (5, false) }) (v := ?vs7) rfl (by kernel_rfl) (by kernel_rfl) (by kernel_rfl) (fun _ _ _ h => h) (Or.inl ⟨by rfl, ?ys7⟩) (by assumption) ?_
    case ys7 => (intro w hSw; (try dsimp only at hSw); go_simp; first | done | with_reducible rfl)
    (try simp only [Act.put, List.setIfInBounds_toArray, List.set_cons_zero, List.set_cons_succ])
    refine wpAnyH_take (i := 8) (oi := { dst := some 31, op := Op.move (Operand.tmp 30), type := 4, pos := "law.go:89", after := #[{ on := 7, ground := Ground.data }, { on := 5, ground := Ground.chain }, { on := 5, ground := Ground.guard }], guard := some (5, false) }) (v := ?vs8) rfl (by kernel_rfl) (by kernel_rfl) (by kernel_rfl) (fun _ _ _ h => h) (Or.inl ⟨by rfl, ?ys8⟩) (by assumption) ?_
    case ys8 => (intro w hSw; (try dsimp only at hSw); go_simp; first | done | with_reducible rfl)
    (try simp only [Act.put, List.setIfInBounds_toArray, List.set_cons_zero, List.set_cons_succ])
    refine wpAnyH_take (i := 9) (oi := { dst := some 32, op := Op.move (Operand.tmp 5), type := 3, pos := "law.go:89", after := #[{ on := 8, ground := Ground.guard }], guard := some (8, true) }) (v := undef) rfl (by kernel_rfl) (by kernel_rfl) (by kernel_rfl) (fun _ _ _ h => h) (Or.inr ⟨by rfl, rfl⟩) (by assumption) ?_
    (try simp only [Act.put, List.setIfInBounds_toArray, List.set_cons_zero, List.set_cons_succ])
    refine wpAnyH_take (i := 10) (oi := { dst := some 33, op := Op.binOp BinOp.neq 3 (Operand.tmp 32) (Operand.const (Value.int IntKind.i64 0)) 3, type := 4, pos := "law.go:89", after := #[{ on := 9, ground := Ground.data }, { on := 8, ground := Ground.guard }], guard := some (8, true) }) (v := undef) rfl (by kernel_rfl) (by kernel_rfl) (by kernel_rfl) (fun _ _ _ h => h) (Or.inr ⟨by rfl, rfl⟩) (by assumption) ?_
    (try simp only [Act.put, List.setIfInBounds_toArray, List.set_cons_zero, List.set_cons_succ])
    refine wpAnyH_take (i := 11) (oi := { dst := some 34, op := Op.pick (Operand.tmp 31) (Operand.tmp 33) (Operand.const (Value.bool false)), type := 4, pos := "law.go:89", after := #[{ on := 8, ground := Ground.data }, { on := 10, ground := Ground.data }, { on := 5, ground := Ground.guard }], guard := some (5, false) }) (v := ?vs11) rfl (by kernel_rfl) (by kernel_rfl) (by kernel_rfl) (fun _ _ _ h => h) (Or.inl ⟨by rfl, ?ys11⟩) (by assumption) ?_
    case ys11 => (intro w hSw; (try dsimp only at hSw); go_simp; first | done | with_reducible rfl)
    (try simp only [Act.put, List.setIfInBounds_toArray, List.set_cons_zero, List.set_cons_succ])
    refine wpAnyH_take (i := 12) (oi := { dst := some 35, op := Op.pick (Operand.tmp 28) (Operand.const (Value.bool true)) (Operand.tmp 34), type := 4, pos := "law.go:89", after := #[{ on := 5, ground := Ground.data }, { on := 11, ground := Ground.data }], guard := none }) (v := ?vs12) rfl (by kernel_rfl) (by kernel_rfl) (by kernel_rfl) (fun _ _ _ h => h) (Or.inl ⟨by rfl, ?ys12⟩) (by assumption) ?_
    case ys12 => (intro w hSw; (try dsimp only at hSw); go_simp; first | done | with_reducible rfl)
    (try simp only [Act.put, List.setIfInBounds_toArray, List.set_cons_zero, List.set_cons_succ])
    refine wpAnyH_take (i := 13) (oi := { dst := some 36, op := Op.move (Operand.tmp 35), type := 4, pos := "law.go:89", after := #[{ on := 12, ground := Ground.data }, { on := 8, ground := Ground.chain }], guard := none }) (v := ?vs13) rfl (by kernel_rfl) (by kernel_rfl) (by kernel_rfl) (fun _ _ _ h => h) (Or.inl ⟨by rfl, ?ys13⟩) (by assumption) ?_
    case ys13 => (intro w hSw; (try dsimp only at hSw); go_simp; first | done | with_reducible rfl)
    (try simp only [Act.put, List.setIfInBounds_toArray, List.set_cons_zero, List.set_cons_succ])
    refine wpAnyH_take (i := 14) (oi := { dst := some 37, op := Op.move (Operand.tmp 6), type := 4, pos := "law.go:89", after := #[{ on := 13, ground := Ground.guard }], guard := some (13, false) }) (v := ?vs14) rfl (by kernel_rfl) (by kernel_rfl) (by kernel_rfl) (fun _ _ _ h => h) (Or.inl ⟨by rfl, ?ys14⟩) (by assumption) ?_
    case ys14 => (intro w hSw; (try dsimp only at hSw); go_simp; first | done | with_reducible rfl)
    (try simp only [Act.put, List.setIfInBounds_toArray, List.set_cons_zero, List.set_cons_succ])
    refine wpAnyH_take (i := 15) (oi := { dst := some 38, op := Op.move (Operand.tmp 37), type := 4, pos := "law.go:89", after := #[{ on := 14, ground := Ground.data }, { on := 13, ground := Ground.chain }, { on := 13, ground := Ground.guard }], guard := some (13, false) }) (v := ?vs15) rfl (by kernel_rfl) (by kernel_rfl) (by kernel_rfl) (fun _ _ _ h => h) (Or.inl ⟨by rfl, ?ys15⟩) (by assumption) ?_
    case ys15 => (intro w hSw; (try dsimp only at hSw); go_simp; first | done | with_reducible rfl)
    (try simp only [Act.put, List.setIfInBounds_toArray, List.set_cons_zero, List.set_cons_succ])
    refine wpAnyH_take (i := 16) (oi := { dst := some 39, op := Op.move (Operand.tmp 5), type := 3, pos := "law.go:89", after := #[{ on := 15, ground := Ground.guard }], guard := some (15, true) }) (v := ?vs16) rfl (by kernel_rfl) (by kernel_rfl) (by kernel_rfl) (fun _ _ _ h => h) (Or.inl ⟨by rfl, ?ys16⟩) (by assumption) ?_
    case ys16 => (intro w hSw; (try dsimp only at hSw); go_simp; first | done | with_reducible rfl)
    (try simp only [Act.put, List.setIfInBounds_toArray, List.set_cons_zero, List.set_cons_succ])
    refine wpAnyH_take (i := 17) (oi := { dst := some 40, op := Op.binOp BinOp.lss 3 (Operand.tmp 39) (Operand.const (Value.int IntKind.i64 0)) 3, type := 4, pos := "law.go:89", after := #[{ on := 16, ground := Ground.data }, { on := 15, ground := Ground.guard }], guard := some (15, true) }) (v := Value.bool false) rfl (by kernel_rfl) (by kernel_rfl) (by kernel_rfl) (fun _ _ _ h => h) (Or.inl ⟨by rfl, ?ys17⟩) (by assumption) ?_
    case ys17 => (intro w hSw; (try dsimp only at hSw); go_simp; first | done | omega | (simp; omega))
    (try simp only [Act.put, List.setIfInBounds_toArray, List.set_cons_zero, List.set_cons_succ])
    refine wpAnyH_take (i := 18) (oi := { dst := some 41, op := Op.move (Operand.tmp 40), type := 4, pos := "law.go:89", after := #[{ on := 17, ground := Ground.data }, { on := 15, ground := Ground.chain }, { on := 15, ground := Ground.guard }], guard := some (15, true) }) (v := ?vs18) rfl (by kernel_rfl) (by kernel_rfl) (by kernel_rfl) (fun _ _ _ h => h) (Or.inl ⟨by rfl, ?ys18⟩) (by assumption) ?_
    case ys18 => (intro w hSw; (try dsimp only at hSw); go_simp; first | done | with_reducible rfl)
    (try simp only [Act.put, List.setIfInBounds_toArray, List.set_cons_zero, List.set_cons_succ])
    refine wpAnyH_take (i := 19) (oi := { dst := some 42, op := Op.move (Operand.tmp 5), type := 3, pos := "law.go:89", after := #[{ on := 18, ground := Ground.guard }], guard := some (18, false) }) (v := ?vs19) rfl (by kernel_rfl) (by kernel_rfl) (by kernel_rfl) (fun _ _ _ h => h) (Or.inl ⟨by rfl, ?ys19⟩) (by assumption) ?_
    case ys19 => (intro w hSw; (try dsimp only at hSw); go_simp; first | done | with_reducible rfl)
    (try simp only [Act.put, List.setIfInBounds_toArray, List.set_cons_zero, List.set_cons_succ])
    refine wpAnyH_take (i := 20) (oi := { dst := some 43, op := Op.move (Operand.tmp 1), type := 25, pos := "law.go:89", after := #[{ on := 18, ground := Ground.guard }], guard := some (18, false) }) (v := ?vs20) rfl (by kernel_rfl) (by kernel_rfl) (by kernel_rfl) (fun _ _ _ h => h) (Or.inl ⟨by rfl, ?ys20⟩) (by assumption) ?_
    case ys20 => (intro w hSw; (try dsimp only at hSw); go_simp; first | done | with_reducible rfl)
    (try simp only [Act.put, List.setIfInBounds_toArray, List.set_cons_zero, List.set_cons_succ])
    refine wpAnyH_take (i := 21) (oi := { dst := some 44, op := Op.call { callee := Callee.builtin Builtin.len, args := #[Operand.tmp 43], argTypes := #[25] }, type := 3, pos := "law.go:89", after := #[{ on := 20, ground := Ground.data }, { on := 18, ground := Ground.guard }], guard := some (18, false) }) (v := ?vs21) rfl (by kernel_rfl) (by kernel_rfl) (by kernel_rfl) (fun _ _ _ h => h) (Or.inl ⟨by rfl, ?ys21⟩) (by assumption) ?_
    case ys21 => (intro w hSw; (try dsimp only at hSw); go_simp; first | done | with_reducible rfl)
    (try simp only [Act.put, List.setIfInBounds_toArray, List.set_cons_zero, List.set_cons_succ])
    refine wpAnyH_take (i := 22) (oi := { dst := some 45, op := Op.binOp BinOp.geq 3 (Operand.tmp 42) (Operand.tmp 44) 3, type := 4, pos := "law.go:89", after := #[{ on := 19, ground := Ground.data }, { on := 21, ground := Ground.data }, { on := 18, ground := Ground.guard }], guard := some (18, false) }) (v := Value.bool false) rfl (by kernel_rfl) (by kernel_rfl) (by kernel_rfl) (fun _ _ _ h => h) (Or.inl ⟨by rfl, ?ys22⟩) (by assumption) ?_
    case ys22 => (intro w hSw; (try dsimp only at hSw); go_simp; first | done | omega | (simp; omega))
    (try simp only [Act.put, List.setIfInBounds_toArray, List.set_cons_zero, List.set_cons_succ])
    refine wpAnyH_take (i := 23) (oi := { dst := some 46, op := Op.pick (Operand.tmp 41) (Operand.const (Value.bool true)) (Operand.tmp 45), type := 4, pos := "law.go:89", after := #[{ on := 18, ground := Ground.data }, { on := 22, ground := Ground.data }, { on := 15, ground := Ground.guard }], guard := some (15, true) }) (v := ?vs23) rfl (by kernel_rfl) (by kernel_rfl) (by kernel_rfl) (fun _ _ _ h => h) (Or.inl ⟨by rfl, ?ys23⟩) (by assumption) ?_
    case ys23 => (intro w hSw; (try dsimp only at hSw); go_simp; first | done | with_reducible rfl)
    (try simp only [Act.put, List.setIfInBounds_toArray, List.set_cons_zero, List.set_cons_succ])
    refine wpAnyH_take (i := 24) (oi := { dst := some 47, op := Op.move (Operand.tmp 46), type := 4, pos := "law.go:89", after := #[{ on := 23, ground := Ground.data }, { on := 18, ground := Ground.chain }, { on := 15, ground := Ground.guard }], guard := some (15, true) }) (v := ?vs24) rfl (by kernel_rfl) (by kernel_rfl) (by kernel_rfl) (fun _ _ _ h => h) (Or.inl ⟨by rfl, ?ys24⟩) (by assumption) ?_
    case ys24 => (intro w hSw; (try dsimp only at hSw); go_simp; first | done | with_reducible rfl)
    (try simp only [Act.put, List.setIfInBounds_toArray, List.set_cons_zero, List.set_cons_succ])
    refine wpAnyH_take (i := 25) (oi := { dst := some 48, op := Op.load 24 (Operand.tmp 2), type := 24, pos := "law.go:89", after := #[{ on := 24, ground := Ground.guard }], guard := some (24, false) }) (v := ?vs25) rfl (by kernel_rfl) (by kernel_rfl) (by kernel_rfl) (fun _ _ _ h => h) (Or.inl ⟨by rfl, ?ys25⟩) (by assumption) ?_
    case ys25 => (intro w hSw; (try dsimp only at hSw); go_simp; first | done | with_reducible rfl)
    (try simp only [Act.put, List.setIfInBounds_toArray, List.set_cons_zero, List.set_cons_succ])
    refine wpAnyH_take (i := 26) (oi := { dst := some 49, op := Op.move (Operand.tmp 7), type := 28, pos := "law.go:89", after := #[{ on := 24, ground := Ground.guard }], guard := some (24, false) }) (v := ?vs26) rfl (by kernel_rfl) (by kernel_rfl) (by kernel_rfl) (fun _ _ _ h => h) (Or.inl ⟨by rfl, ?ys26⟩) (by assumption) ?_
    case ys26 => (intro w hSw; (try dsimp only at hSw); go_simp; first | done | with_reducible rfl)
    (try simp only [Act.put, List.setIfInBounds_toArray, List.set_cons_zero, List.set_cons_succ])
    refine wpAnyH_take (i := 27) (oi := { dst := some 50, op := Op.move (Operand.tmp 5), type := 3, pos := "law.go:89", after := #[{ on := 24, ground := Ground.guard }], guard := some (24, false) }) (v := ?vs27) rfl (by kernel_rfl) (by kernel_rfl) (by kernel_rfl) (fun _ _ _ h => h) (Or.inl ⟨by rfl, ?ys27⟩) (by assumption) ?_
    case ys27 => (intro w hSw; (try dsimp only at hSw); go_simp; first | done | with_reducible rfl)
    (try simp only [Act.put, List.setIfInBounds_toArray, List.set_cons_zero, List.set_cons_succ])
    refine wpAnyH_take (i := 28) (oi := { dst := some 51, op := Op.indexAddr 28 (Operand.tmp 49) (Operand.tmp 50), type := 0, pos := "law.go:89", after := #[{ on := 26, ground := Ground.data }, { on := 27, ground := Ground.data }, { on := 24, ground := Ground.guard }], guard := some (24, false) }) (v := ?vs28) rfl (by kernel_rfl) (by kernel_rfl) (by kernel_rfl) (fun _ _ _ h => h) (Or.inl ⟨by rfl, ?ys28⟩) (by assumption) ?_
    case ys28 => (intro w hSw; (try dsimp only at hSw); go_simp; first | done | with_reducible rfl)
    (try simp only [Act.put, List.setIfInBounds_toArray, List.set_cons_zero, List.set_cons_succ])
    refine wpAnyH_take (i := 29) (oi := { dst := some 52, op := Op.load 22 (Operand.tmp 51), type := 22, pos := "law.go:89", after := #[{ on := 28, ground := Ground.data }, { on := 24, ground := Ground.guard }], guard := some (24, false) }) (v := ?vs29) rfl (by kernel_rfl) (by kernel_rfl) (by kernel_rfl) (fun _ _ _ h => h) (Or.inl ⟨by rfl, ?ys29⟩) (by assumption) ?_
    case ys29 => (intro w hSw; (try dsimp only at hSw); go_simp; first | done | with_reducible rfl)
    (try simp only [Act.put, List.setIfInBounds_toArray, List.set_cons_zero, List.set_cons_succ])
    refine wpAnyH_ready (rs := [30]) (by kernel_rfl) (by simp) ?_
    refine AllReadyH.cons (o := { dst := some 53, op := Op.call { callee := Callee.value (Operand.func 13), args := #[Operand.tmp 48, Operand.tmp 52], argTypes := #[24, 22] }, type := 4, pos := "law.go:89", after := #[{ on := 25, ground := Ground.data }, { on := 29, ground := Ground.data }, { on := 24, ground := Ground.chain }, { on := 24, ground := Ground.guard }], guard := some (24, false) }) rfl (fun K hK => ?_) AllReadyH.nil
    go_simp
    refine (CEx.out _).mono ?_
    rintro e w4 ⟨rfl, hb4⟩
    refine hK.out _ _ ?_ (fun hHeld => ?_)
    · (try dsimp only); exact keepF hwl hga (by assumption) hb4
    clear hK K
    (try simp only [Act.put, List.setIfInBounds_toArray, List.set_cons_zero, List.set_cons_succ])
    refine wpAnyH_take (i := 31) (oi := { dst := some 54, op := Op.unOp UnOp.not 4 (Operand.tmp 53), type := 4, pos := "law.go:89", after := #[{ on := 30, ground := Ground.data }, { on := 24, ground := Ground.guard }], guard := some (24, false) }) (v := ?vs31) rfl (by kernel_rfl) (by kernel_rfl) (by kernel_rfl) (fun _ _ _ h => h) (Or.inl ⟨by rfl, ?ys31⟩) (by assumption) ?_
    case ys31 => (intro w hSw; (try dsimp only at hSw); go_simp; first | done | with_reducible rfl)
    (try simp only [Act.put, List.setIfInBounds_toArray, List.set_cons_zero, List.set_cons_succ])
    refine wpAnyH_take (i := 32) (oi := { dst := some 55, op := Op.pick (Operand.tmp 47) (Operand.const (Value.bool true)) (Operand.tmp 54), type := 4, pos := "law.go:89", after := #[{ on := 24, ground := Ground.data }, { on := 31, ground := Ground.data }, { on := 15, ground := Ground.guard }], guard := some (15, true) }) (v := ?vs32) rfl (by kernel_rfl) (by kernel_rfl) (by kernel_rfl) (fun _ _ _ h => h) (Or.inl ⟨by rfl, ?ys32⟩) (by assumption) ?_
    case ys32 => (intro w hSw; (try dsimp only at hSw); go_simp; first | done | with_reducible rfl)
    (try simp only [Act.put, List.setIfInBounds_toArray, List.set_cons_zero, List.set_cons_succ])
    refine wpAnyH_take (i := 33) (oi := { dst := some 56, op := Op.pick (Operand.tmp 38) (Operand.tmp 55) (Operand.const (Value.bool false)), type := 4, pos := "law.go:89", after := #[{ on := 15, ground := Ground.data }, { on := 32, ground := Ground.data }, { on := 13, ground := Ground.guard }], guard := some (13, false) }) (v := ?vs33) rfl (by kernel_rfl) (by kernel_rfl) (by kernel_rfl) (fun _ _ _ h => h) (Or.inl ⟨by rfl, ?ys33⟩) (by assumption) ?_
    case ys33 => (intro w hSw; (try dsimp only at hSw); go_simp; first | done | with_reducible rfl)
    (try simp only [Act.put, List.setIfInBounds_toArray, List.set_cons_zero, List.set_cons_succ])
    refine wpAnyH_take (i := 34) (oi := { dst := some 57, op := Op.pick (Operand.tmp 36) (Operand.const (Value.bool true)) (Operand.tmp 56), type := 4, pos := "law.go:89", after := #[{ on := 13, ground := Ground.data }, { on := 33, ground := Ground.data }], guard := none }) (v := ?vs34) rfl (by kernel_rfl) (by kernel_rfl) (by kernel_rfl) (fun _ _ _ h => h) (Or.inl ⟨by rfl, ?ys34⟩) (by assumption) ?_
    case ys34 => (intro w hSw; (try dsimp only at hSw); go_simp; first | done | with_reducible rfl)
    (try simp only [Act.put, List.setIfInBounds_toArray, List.set_cons_zero, List.set_cons_succ])
    refine wpAnyH_done (by kernel_rfl) ?_ _
    have HS : w4.cell? ⟨w.heap.size, 0, none⟩ = some (.float .f64 k) ∧ w4.cell? ⟨w.heap.size, 1, none⟩ = some (.float .f64 g) ∧ w4.cell? ⟨w.heap.size, 2, none⟩ = some (.float .f64 l) ∧ w4.cell? ⟨ga, i0, none⟩ = some (.float .f64 x) ∧ Below w3.heap.size w3 w4 := by assumption
    have HS : w4.cell? ⟨w.heap.size, 0, none⟩ = some (.float .f64 k) ∧ w4.cell? ⟨w.heap.size, 1, none⟩ = some (.float .f64 g) ∧ w4.cell? ⟨w.heap.size, 2, none⟩ = some (.float .f64 l) ∧ w4.cell? ⟨ga, i0, none⟩ = some (.float .f64 x) ∧ Below w3.heap.size w3 w4 := hHeld
    have HB4 : Below w.heap.size w w4 := C3.below.trans (HS.2.2.2.2.mono C3.below.size)
    have hw4 : w.heap.size < w4.heap.size := Nat.lt_of_lt_of_le hwl HS.2.2.2.2.size
    have hga4 : ga < w4.heap.size := Nat.lt_of_lt_of_le hga HS.2.2.2.2.size
    have Hb34 := Lib.hid HS.2.2.2.2
    have CE := Lib.hid (eager_any k g l)
    unfold pv at CE
    obtain ⟨t0, t1, t2, _⟩ := HS
    go_wp2
    go_loopw [8] (fun i wx => ∃ j : Nat, j ≤ i0 ∧ i = .int .i64 j ∧ Below w4.heap.size w4 wx) (fun i _ => i0 - (intOf i).toNat)
    case atStart => exact ⟨0, Nat.zero_le _, rfl, Below.refl _ _⟩
    case round =>
      obtain ⟨j, hj, rfl, hbx⟩ := hrel
      have u0 := (hbx.cell (p := ⟨w.heap.size, 0, none⟩) hw4).trans t0
      have u1 := (hbx.cell (p := ⟨w.heap.size, 1, none⟩) hw4).trans t1
      have u2 := (hbx.cell (p := ⟨w.heap.size, 2, none⟩) hw4).trans t2
      by_cases hlt : j < i0
      · obtain ⟨gb, hgb, _, x2, hrx, hcx0⟩ := row_at Hown.out (show j < n by omega)
        cases hgb
        have hcx2 : wr.cell? ⟨ga, j, none⟩ = some (.float .f64 x2) := (hbx.cell hga4).trans ((Hb34.out.cell hga).trans hcx0)
        have hz := Hlazy.out j hlt (ab x2) (by rw [List.getElem?_map, hrx]; rfl)
        have CEy := CE.out x2
        rw [hz] at CEy
        have CEz := Lib.hid CEy
        have hk0 : (0 : Int) ≤ (j : Int) := by omega
        have hk1 : (j : Int) < (n : Int) := by omega
        have hk2 : (j : Int) < (i0 : Int) := by omega
        clear CEy hz hrx hcx0 Hlazy Hown
        go_upto_region 12 with fail
        go_region_held3 (fun w' => w'.cell? ⟨w.heap.size, 0, none⟩ = some (.float .f64 k) ∧ w'.cell? ⟨w.heap.size, 1, none⟩ = some (.float .f64 g) ∧ w'.cell? ⟨w.heap.size, 2, none⟩ = some (.float .f64 l) ∧ w'.cell? ⟨ga, j, none⟩ = some (.float .f64 x2) ∧ Below w4.heap.size w4 w')
          (first | (refine ⟨?_, ?_, ?_, ?_, ?_⟩ <;> first | exact hbx.drew | go_keep) | exact keepF hw4 hga4 (by assumption) hb6)
          ((first | (go_at_call 13; refine (CEz.out _).mono ?_; rintro e w6 ⟨rfl, hb6⟩)))
        have HS6 : w6.cell? ⟨w.heap.size, 0, none⟩ = some (.float .f64 k) ∧ w6.cell? ⟨w.heap.size, 1, none⟩ = some (.float .f64 g) ∧ w6.cell? ⟨w.heap.size, 2, none⟩ = some (.float .f64 l) ∧ w6.cell? ⟨ga, j, none⟩ = some (.float .f64 x2) ∧ Below w4.heap.size w4 w6 := by assumption
        go_wp2
        go_roundw
        case rel => exact ⟨j + 1, by omega, by go_num, HS6.2.2.2.2⟩
        case measure => simp [intOf]; omega
      · have hk2 : ¬ (j : Int) < (i0 : Int) := by omega
        have HBW := HB4.trans (hbx.mono HB4.size)
        have hwW : w.heap.size < wr.heap.size := Nat.lt_of_lt_of_le hw4 hbx.size
        clear Hlazy Hown CE CEx Hb34 t0 t1 t2
        have CP := plain_any k g l
        unfold pv at CP
        cases hp : plainB (ab k) (ab g) (ab l)
        · rw [hp] at CP
          have CPx := Lib.hid CP
          clear CP hp
          go_upto_region 14 with fail
          refine wp_region_held_drew (S := fun w' => w'.cell? ⟨w.heap.size, 0, none⟩ = some (.float .f64 k) ∧ w'.cell? ⟨w.heap.size, 1, none⟩ = some (.float .f64 g) ∧ w'.cell? ⟨w.heap.size, 2, none⟩ = some (.float .f64 l) ∧ Below wr.heap.size wr w') (by kernel_rfl) ?_ (fun hHeld => ?_)
          · (refine ⟨?_, ?_, ?_, ?_⟩ <;> first | exact (Below.refl _ _).drew | go_keep)
          refine wpAnyH_take (i := 0) (oi := { dst := some 72, op := Op.load 24 (Operand.tmp 2), type := 24, pos := "law.go:97", after := #[], guard := none }) (v := ?vsa0) rfl (by kernel_rfl) (by kernel_rfl) (by kernel_rfl) (fun _ _ _ h => h) (Or.inl ⟨by rfl, ?ysa0⟩) (by assumption) ?_
          case ysa0 => (intro w hSw; (try dsimp only at hSw); go_simp; first | done | with_reducible rfl)
          (try simp only [Act.put, List.setIfInBounds_toArray, List.set_cons_zero, List.set_cons_succ])
          refine wpAnyH_ready (rs := [1]) (by kernel_rfl) (by simp) ?_
          refine AllReadyH.cons (o := { dst := some 73, op := Op.call { callee := Callee.value (Operand.func 11), args := #[Operand.tmp 72], argTypes := #[24] }, type := 4, pos := "law.go:97", after := #[{ on := 0, ground := Ground.data }], guard := none }) rfl (fun K hK => ?_) AllReadyH.nil
          go_simp
          refine (CPx.out _).mono ?_
          rintro e w9 ⟨rfl, hb9⟩
          refine hK.out _ _ ?_ (fun hHeld => ?_)
          · (try dsimp only); exact keepR hwW (by assumption) hb9
          clear hK K
          (try simp only [Act.put, List.setIfInBounds_toArray, List.set_cons_zero, List.set_cons_succ])
          refine wpAnyH_take (i := 2) (oi := { dst := some 74, op := Op.unOp UnOp.not 4 (Operand.tmp 73), type := 4, pos := "law.go:97", after := #[{ on := 1, ground := Ground.data }], guard := none }) (v := ?vsa2) rfl (by kernel_rfl) (by kernel_rfl) (by kernel_rfl) (fun _ _ _ h => h) (Or.inl ⟨by rfl, ?ysa2⟩) (by assumption) ?_
          case ysa2 => (intro w hSw; (try dsimp only at hSw); go_simp; first | done | with_reducible rfl)
          (try simp only [Act.put, List.setIfInBounds_toArray, List.set_cons_zero, List.set_cons_succ])
          refine wpAnyH_take (i := 3) (oi := { dst := some 75, op := Op.move (Operand.tmp 74), type := 4, pos := "law.go:97", after := #[{ on := 2, ground := Ground.data }, { on := 1, ground := Ground.chain }], guard := none }) (v := ?vsa3) rfl (by kernel_rfl) (by kernel_rfl) (by kernel_rfl) (fun _ _ _ h => h) (Or.inl ⟨by rfl, ?ysa3⟩) (by assumption) ?_
          case ysa3 => (intro w hSw; (try dsimp only at hSw); go_simp; first | done | with_reducible rfl)
          (try simp only [Act.put, List.setIfInBounds_toArray, List.set_cons_zero, List.set_cons_succ])
          refine wpAnyH_take (i := 4) (oi := { dst := some 76, op := Op.load 24 (Operand.tmp 2), type := 24, pos := "law.go:97", after := #[{ on := 3, ground := Ground.guard }], guard := some (3, false) }) (v := undef) rfl (by kernel_rfl) (by kernel_rfl) (by kernel_rfl) (fun _ _ _ h => h) (Or.inr ⟨by rfl, rfl⟩) (by assumption) ?_
          (try simp only [Act.put, List.setIfInBounds_toArray, List.set_cons_zero, List.set_cons_succ])
          refine wpAnyH_take (i := 5) (oi := { dst := some 77, op := Op.move (Operand.tmp 1), type := 25, pos := "law.go:97", after := #[{ on := 3, ground := Ground.guard }], guard := some (3, false) }) (v := undef) rfl (by kernel_rfl) (by kernel_rfl) (by kernel_rfl) (fun _ _ _ h => h) (Or.inr ⟨by rfl, rfl⟩) (by assumption) ?_
          (try simp only [Act.put, List.setIfInBounds_toArray, List.set_cons_zero, List.set_cons_succ])
          refine wpAnyH_take (i := 6) (oi := { dst := some 78, op := Op.call { callee := Callee.builtin Builtin.len, args := #[Operand.tmp 77], argTypes := #[25] }, type := 3, pos := "law.go:97", after := #[{ on := 5, ground := Ground.data }, { on := 3, ground := Ground.guard }], guard := some (3, false) }) (v := undef) rfl (by kernel_rfl) (by kernel_rfl) (by kernel_rfl) (fun _ _ _ h => h) (Or.inr ⟨by rfl, rfl⟩) (by assumption) ?_
          (try simp only [Act.put, List.setIfInBounds_toArray, List.set_cons_zero, List.set_cons_succ])
          refine wpAnyH_take (i := 7) (oi := { dst := some 79, op := Op.makeSlice 25 (Operand.tmp 78) (Operand.tmp 78), type := 25, pos := "law.go:97", after := #[{ on := 6, ground := Ground.data }, { on := 6, ground := Ground.data }, { on := 3, ground := Ground.guard }], guard := some (3, false) }) (v := undef) rfl (by kernel_rfl) (by kernel_rfl) (by kernel_rfl) (fun _ _ _ h => h) (Or.inr ⟨by rfl, rfl⟩) (by assumption) ?_
          (try simp only [Act.put, List.setIfInBounds_toArray, List.set_cons_zero, List.set_cons_succ])
          refine wpAnyH_take (i := 8) (oi := { dst := some 80, op := Op.call { callee := Callee.value (Operand.func 23), args := #[Operand.tmp 76, Operand.tmp 79], argTypes := #[24, 25] }, type := 22, pos := "law.go:97", after := #[{ on := 4, ground := Ground.data }, { on := 7, ground := Ground.data }, { on := 3, ground := Ground.chain }, { on := 3, ground := Ground.guard }], guard := some (3, false) }) (v := undef) rfl (by kernel_rfl) (by kernel_rfl) (by kernel_rfl) (fun _ _ _ h => h) (Or.inr ⟨by rfl, rfl⟩) (by assumption) ?_
          (try simp only [Act.put, List.setIfInBounds_toArray, List.set_cons_zero, List.set_cons_succ])
          refine wpAnyH_take (i := 9) (oi := { dst := some 81, op := Op.binOp BinOp.eql 22 (Operand.tmp 80) (Operand.const (Value.float FloatKind.f64 0)) 22, type := 4, pos := "law.go:97", after := #[{ on := 8, ground := Ground.data }, { on := 3, ground := Ground.guard }], guard := some (3, false) }) (v := undef) rfl (by kernel_rfl) (by kernel_rfl) (by kernel_rfl) (fun _ _ _ h => h) (Or.inr ⟨by rfl, rfl⟩) (by assumption) ?_
          (try simp only [Act.put, List.setIfInBounds_toArray, List.set_cons_zero, List.set_cons_succ])
          refine wpAnyH_take (i := 10) (oi := { dst := some 82, op := Op.pick (Operand.tmp 75) (Operand.const (Value.bool true)) (Operand.tmp 81), type := 4, pos := "law.go:97", after := #[{ on := 3, ground := Ground.data }, { on := 9, ground := Ground.data }], guard := none }) (v := ?vsa10) rfl (by kernel_rfl) (by kernel_rfl) (by kernel_rfl) (fun _ _ _ h => h) (Or.inl ⟨by rfl, ?ysa10⟩) (by assumption) ?_
          case ysa10 => (intro w hSw; (try dsimp only at hSw); go_simp; first | done | with_reducible rfl)
          (try simp only [Act.put, List.setIfInBounds_toArray, List.set_cons_zero, List.set_cons_succ])
          refine wpAnyH_take (i := 11) (oi := { dst := some 4, op := Op.assign (Operand.tmp 82), type := 4, pos := "law.go:97", after := #[{ on := 10, ground := Ground.data }, { on := 8, ground := Ground.chain }, { on := 0, ground := Ground.phase }, { on := 1, ground := Ground.phase }, { on := 2, ground := Ground.phase }, { on := 3, ground := Ground.phase }, { on := 4, ground := Ground.phase }, { on := 5, ground := Ground.phase }, { on := 6, ground := Ground.phase }, { on := 7, ground := Ground.phase }, { on := 8, ground := Ground.phase }, { on := 9, ground := Ground.phase }, { on := 10, ground := Ground.phase }], guard := none }) (v := ?vsa11) rfl (by kernel_rfl) (by kernel_rfl) (by kernel_rfl) (fun _ _ _ h => h) (Or.inl ⟨by rfl, ?ysa11⟩) (by assumption) ?_
          case ysa11 => (intro w hSw; (try dsimp only at hSw); go_simp; first | done | with_reducible rfl)
          (try simp only [Act.put, List.setIfInBounds_toArray, List.set_cons_zero, List.set_cons_succ])
          refine wpAnyH_done (by kernel_rfl) ?_ _
          go_wp2
          go_ret
          exact ⟨by simp, HBW.trans (hHeld.2.2.2.mono HBW.size)⟩
        · rw [hp] at CP
          have CPx := Lib.hid CP
          have hz := none_zero hp n
          have hmk : ∀ w' : World, (Instr.makeSlice 25 (.int .i64 (n : Int)) (.int .i64 (n : Int))).run Try.prog w' = .ok (.slice (some ⟨w'.heap.size, 0, none⟩) n n) (w'.alloc (.cells (madeCells #[.bool false] n) 4)) :=
            run_make_row' 25 4 (.bool false) 1 Try.underlying25 Try.info4 rfl .i64 .i64 n (by omega) (by omega)
          have CS : ∀ w' : World, Calls Try.prog 23 #[.agg #[.float .f64 k, .float .f64 g, .float .f64 l], .slice (some ⟨w'.heap.size, 0, none⟩) n n] (w'.alloc (.cells (madeCells #[.bool false] n) 4)) (FloatIs (ascore (ab k) (ab g) (ab 0) (List.replicate n false)) (w'.alloc (.cells (madeCells #[.bool false] n) 4))) :=
            fun w' => score_of k g l n (bools_made w' n) (by omega)
          have CSx := Lib.hid CS
          clear CP hp CS
          go_upto_region 14 with fail
          go_region_held3 (fun w' => w'.cell? ⟨w.heap.size, 0, none⟩ = some (.float .f64 k) ∧ w'.cell? ⟨w.heap.size, 1, none⟩ = some (.float .f64 g) ∧ w'.cell? ⟨w.heap.size, 2, none⟩ = some (.float .f64 l) ∧ Below wr.heap.size wr w')
            (first | (refine ⟨?_, ?_, ?_, ?_⟩ <;> first | exact (Below.refl _ _).drew | go_keep) | exact keepR hwW (by assumption) hb9 | exact keepR hwW (by assumption) hb10 | exact keepR hwW (by assumption) (Below.news _ _))
            ((first | (go_at_call 11; refine (CPx.out _).mono ?_; rintro e w9 ⟨rfl, hb9⟩) | (go_at_call 23; refine (CSx.out _).mono ?_; rintro e w10 ⟨r, rfl, hr, hb10⟩; rw [← hr, aeq_is] at hz)))
          have HS10 : w10.cell? ⟨w.heap.size, 0, none⟩ = some (.float .f64 k) ∧ w10.cell? ⟨w.heap.size, 1, none⟩ = some (.float .f64 g) ∧ w10.cell? ⟨w.heap.size, 2, none⟩ = some (.float .f64 l) ∧ Below wr.heap.size wr w10 := by assumption
          clear hmk CSx CPx
          go_wp2
          go_ret
          exact ⟨by simp, HBW.trans (HS10.2.2.2.mono HBW.size)⟩

/-- The law, whatever came in. -/
theorem lawfirst_any (k g l : Nat) {w : World} (A : Option Addr) (n cap : Nat) (bs : List Bool) (hv : Bools w A n bs) (hm : n ≤ maxLen) :
    Calls Try.prog 8 #[pv k g l, .slice A n cap] w fun e w' => e = .returned (.bool true) ∧ Below w.heap.size w w' := by
  by_cases hn : 100 < n
  · exact first_many k g l A n cap w hn hm
  · exact first_few k g l A n cap bs w (by omega) hv
end Go.Proofs.Ytkakhjaaakophaa
