/- One extent behind others, together with the last one if it can: the package's add. -/
import Derived.Test.YtefbhcpcbolbiaaCells
import Derived.Test.YtefbhcpcbolbiaaRight2
namespace Go.Proofs.Ytefbhcpcbolbiaa
open Go.RowKit

def addE (xs : List E) (x : E) : List E :=
  if x.l < 1 then xs else match xs.getLast? with
  | none => [x]
  | some a => if joinsB a x then xs.set (xs.length - 1) { a with l := wrap64 (a.l + x.l) } else xs ++ [x]

/-- What is a row of the call's own, of these extents. -/
def RowOf (base : Nat) (xs : List E) (w0 : World) (e : Ending) (w : World) : Prop :=
  ∃ v, e = .returned v ∧ w.ownsRow base 29 3 v xs.length (cellsE xs) ∧ Below base w0 w

theorem _root_.Go.World.ownsRow.belowK {w w' : World} {base : Nat} {e : TypeId} {size : Nat} {v : Value} {n : Nat} {xs : List Value} (h : w.ownsRow base e size v n xs) (hb : Below w.heap.size w w') : w'.ownsRow base e size v n xs :=
  h.kept (row := none) ⟨hb.os, hb.tape, hb.output, hb.size, fun k hk _ => hb.block k hk⟩ (by cases v.ownBlock <;> simp)

theorem Below.news_ (w : World) (o : Obj) : Below w.heap.size w (w.alloc o) := (Below.refl _ _).alloc (Nat.le_refl _) _

theorem rowOf_snoc {base : Nat} {xs ys : List E} {x : E} {w0 w : World} {v : Value} (he : ys = xs ++ [x]) (h : w.ownsRow base 29 3 v (xs.length + 1) (cellsE xs ++ cell3 x)) (hb : Below base w0 w) : RowOf base ys w0 (.returned v) w := by
  subst he
  refine ⟨v, rfl, ?_, hb⟩
  rw [cellsE_append, List.length_append]
  have e : cellsE [x] = cell3 x := by simp [cellsE]
  rw [e]
  exact h

theorem Try.info29 : (Try.prog.info? 29).map (fun i => (i.zero, i.size, i.bytes)) = some (some (.agg #[.int .i64 0, .int .i64 0, .int .i64 0]), 3, 24) := by kernel_rfl

set_option maxRecDepth 100000 in
set_option maxHeartbeats 4000000 in
theorem add_any (base : Nat) (xs : List E) (v : Value) (x : E) (w : World) (hown : w.ownsRow base 29 3 v xs.length (cellsE xs)) (hbase : base ≤ w.heap.size) (hn : xs.length ≤ 1000) : Calls Try.prog 21 #[v, ev x] w (RowOf base (addE xs x) w) := by
  obtain ⟨A, c, rfl⟩ : ∃ A c, v = .slice A xs.length c := by
    rcases hown.2 with ⟨rfl, h⟩ | ⟨g, cap, cur, rfl, _⟩
    · exact ⟨none, 0, by rw [h]⟩
    · exact ⟨_, _, rfl⟩
  unfold ev
  by_cases h1 : x.l < 1
  · have he : addE xs x = xs := by unfold addE; rw [if_pos h1]
    rw [he]
    clear he
    go_enter Try.func21, Try.ntmps21
    go_wp2
    go_ret
    exact ⟨_, rfl, hown.alloc _, (Below.refl _ _).alloc hbase _⟩
  · go_enter Try.func21, Try.ntmps21
    obtain ⟨i0, hi, hz0, hz1, hz2⟩ := info_parts Try.info29
    have hn0 : (0 : Int) ≤ (xs.length : Int) := by omega
    by_cases hz : xs.length = 0
    · have hxs : xs = [] := List.length_eq_zero_iff.1 hz
      have he : addE xs x = xs ++ [x] := by unfold addE; rw [if_neg h1, hxs]; rfl
      have hz1 : ¬ (0 : Int) < (xs.length : Int) := by omega
      clear hz hxs
      go_upto_region 4 with fail
      refine wp_region_held_drew (S := fun w' => w'.cell? ⟨w.heap.size, 0, none⟩ = some (.int .i64 x.f) ∧ w'.cell? ⟨w.heap.size, 1, none⟩ = some (.int .i64 x.l) ∧ w'.cell? ⟨w.heap.size, 2, none⟩ = some (.int .i64 x.p) ∧ Below (w.alloc (.cells #[.int .i64 x.f, .int .i64 x.l, .int .i64 x.p] 29)).heap.size (w.alloc (.cells #[.int .i64 x.f, .int .i64 x.l, .int .i64 x.p] 29)) w') (by kernel_rfl) ?_ (fun hHeld => ?_)
      · (refine ⟨?_, ?_, ?_, ?_⟩ <;> first | exact (Below.refl _ _).drew | go_keep)
      refine wpAnyH_take (i := 0) (oi := { dst := some 14, op := Op.move (Operand.tmp 5), type := 3, pos := "extent.go:43", after := #[], guard := none }) (v := ?vz0) rfl (by kernel_rfl) (by kernel_rfl) (by kernel_rfl) (fun _ _ _ h => h) (Or.inl ⟨by rfl, ?yz0⟩) (by assumption) ?_
      case yz0 => (intro w hSw; (try dsimp only at hSw); go_simp; first | done | with_reducible rfl)
      (try simp only [Act.put, List.setIfInBounds_toArray, List.set_cons_zero, List.set_cons_succ])
      refine wpAnyH_take (i := 1) (oi := { dst := some 15, op := Op.binOp BinOp.gtr 3 (Operand.tmp 14) (Operand.const (Value.int IntKind.i64 0)) 3, type := 4, pos := "extent.go:43", after := #[{ on := 0, ground := Ground.data }], guard := none }) (v := Value.bool false) rfl (by kernel_rfl) (by kernel_rfl) (by kernel_rfl) (fun _ _ _ h => h) (Or.inl ⟨by rfl, ?yz1⟩) (by assumption) ?_
      case yz1 => (intro w hSw; (try dsimp only at hSw); go_simp; first | done | assumption | omega | (simp only [IntWalk.i64_left]; first | assumption | omega) | (simp at *; assumption) | (simp at *; omega))
      (try simp only [Act.put, List.setIfInBounds_toArray, List.set_cons_zero, List.set_cons_succ])
      refine wpAnyH_take (i := 2) (oi := { dst := some 16, op := Op.move (Operand.tmp 15), type := 4, pos := "extent.go:43", after := #[{ on := 1, ground := Ground.data }], guard := none }) (v := ?vz2) rfl (by kernel_rfl) (by kernel_rfl) (by kernel_rfl) (fun _ _ _ h => h) (Or.inl ⟨by rfl, ?yz2⟩) (by assumption) ?_
      case yz2 => (intro w hSw; (try dsimp only at hSw); go_simp; first | done | with_reducible rfl)
      (try simp only [Act.put, List.setIfInBounds_toArray, List.set_cons_zero, List.set_cons_succ])
      refine wpAnyH_take (i := 3) (oi := { dst := some 17, op := Op.move (Operand.tmp 0), type := 23, pos := "extent.go:43", after := #[{ on := 2, ground := Ground.guard }], guard := some (2, true) }) (v := undef) rfl (by kernel_rfl) (by kernel_rfl) (by kernel_rfl) (fun _ _ _ h => h) (Or.inr ⟨by rfl, rfl⟩) (by assumption) ?_
      (try simp only [Act.put, List.setIfInBounds_toArray, List.set_cons_zero, List.set_cons_succ])
      refine wpAnyH_take (i := 4) (oi := { dst := some 18, op := Op.move (Operand.tmp 5), type := 3, pos := "extent.go:43", after := #[{ on := 2, ground := Ground.guard }], guard := some (2, true) }) (v := undef) rfl (by kernel_rfl) (by kernel_rfl) (by kernel_rfl) (fun _ _ _ h => h) (Or.inr ⟨by rfl, rfl⟩) (by assumption) ?_
      (try simp only [Act.put, List.setIfInBounds_toArray, List.set_cons_zero, List.set_cons_succ])
      refine wpAnyH_take (i := 5) (oi := { dst := some 19, op := Op.binOp BinOp.sub 3 (Operand.tmp 18) (Operand.const (Value.int IntKind.i64 1)) 3, type := 3, pos := "extent.go:43", after := #[{ on := 4, ground := Ground.data }, { on := 2, ground := Ground.guard }], guard := some (2, true) }) (v := undef) rfl (by kernel_rfl) (by kernel_rfl) (by kernel_rfl) (fun _ _ _ h => h) (Or.inr ⟨by rfl, rfl⟩) (by assumption) ?_
      (try simp only [Act.put, List.setIfInBounds_toArray, List.set_cons_zero, List.set_cons_succ])
      refine wpAnyH_take (i := 6) (oi := { dst := some 20, op := Op.indexAddr 23 (Operand.tmp 17) (Operand.tmp 19), type := 0, pos := "extent.go:43", after := #[{ on := 3, ground := Ground.data }, { on := 5, ground := Ground.data }, { on := 2, ground := Ground.guard }], guard := some (2, true) }) (v := undef) rfl (by kernel_rfl) (by kernel_rfl) (by kernel_rfl) (fun _ _ _ h => h) (Or.inr ⟨by rfl, rfl⟩) (by assumption) ?_
      (try simp only [Act.put, List.setIfInBounds_toArray, List.set_cons_zero, List.set_cons_succ])
      refine wpAnyH_take (i := 7) (oi := { dst := some 21, op := Op.load 29 (Operand.tmp 20), type := 29, pos := "extent.go:43", after := #[{ on := 6, ground := Ground.data }, { on := 2, ground := Ground.guard }], guard := some (2, true) }) (v := undef) rfl (by kernel_rfl) (by kernel_rfl) (by kernel_rfl) (fun _ _ _ h => h) (Or.inr ⟨by rfl, rfl⟩) (by assumption) ?_
      (try simp only [Act.put, List.setIfInBounds_toArray, List.set_cons_zero, List.set_cons_succ])
      refine wpAnyH_take (i := 8) (oi := { dst := some 22, op := Op.load 29 (Operand.tmp 3), type := 29, pos := "extent.go:43", after := #[{ on := 2, ground := Ground.guard }], guard := some (2, true) }) (v := undef) rfl (by kernel_rfl) (by kernel_rfl) (by kernel_rfl) (fun _ _ _ h => h) (Or.inr ⟨by rfl, rfl⟩) (by assumption) ?_
      (try simp only [Act.put, List.setIfInBounds_toArray, List.set_cons_zero, List.set_cons_succ])
      refine wpAnyH_take (i := 9) (oi := { dst := some 23, op := Op.call { callee := Callee.value (Operand.func 23), args := #[Operand.tmp 21, Operand.tmp 22], argTypes := #[29, 29] }, type := 4, pos := "extent.go:43", after := #[{ on := 7, ground := Ground.data }, { on := 8, ground := Ground.data }, { on := 2, ground := Ground.chain }, { on := 2, ground := Ground.guard }], guard := some (2, true) }) (v := undef) rfl (by kernel_rfl) (by kernel_rfl) (by kernel_rfl) (fun _ _ _ h => h) (Or.inr ⟨by rfl, rfl⟩) (by assumption) ?_
      (try simp only [Act.put, List.setIfInBounds_toArray, List.set_cons_zero, List.set_cons_succ])
      refine wpAnyH_take (i := 10) (oi := { dst := some 24, op := Op.pick (Operand.tmp 16) (Operand.tmp 23) (Operand.const (Value.bool false)), type := 4, pos := "extent.go:43", after := #[{ on := 2, ground := Ground.data }, { on := 9, ground := Ground.data }], guard := none }) (v := ?vz10) rfl (by kernel_rfl) (by kernel_rfl) (by kernel_rfl) (fun _ _ _ h => h) (Or.inl ⟨by rfl, ?yz10⟩) (by assumption) ?_
      case yz10 => (intro w hSw; (try dsimp only at hSw); go_simp; first | done | with_reducible rfl)
      (try simp only [Act.put, List.setIfInBounds_toArray, List.set_cons_zero, List.set_cons_succ])
      refine wpAnyH_take (i := 11) (oi := { dst := some 13, op := Op.assign (Operand.tmp 24), type := 4, pos := "extent.go:43", after := #[{ on := 10, ground := Ground.data }, { on := 9, ground := Ground.chain }], guard := none }) (v := ?vz11) rfl (by kernel_rfl) (by kernel_rfl) (by kernel_rfl) (fun _ _ _ h => h) (Or.inl ⟨by rfl, ?yz11⟩) (by assumption) ?_
      case yz11 => (intro w hSw; (try dsimp only at hSw); go_simp; first | done | with_reducible rfl)
      (try simp only [Act.put, List.setIfInBounds_toArray, List.set_cons_zero, List.set_cons_succ])
      refine wpAnyH_done (by kernel_rfl) ?_ _
      have hown4 := Lib.hid (((hown.alloc (.cells #[.int .i64 x.f, .int .i64 x.l, .int .i64 x.p] 29)).alloc (.cells #[.int .i64 x.f, .int .i64 x.l, .int .i64 x.p] 29)).drew)
      have he2 := Lib.hid he
      clear he hown hHeld hz1 hn0
      go_wp2_with (at_builtin; refine wpList_append_own _ rfl _ _ 23 rfl base 29 i0 (.agg #[.int .i64 0, .int .i64 0, .int .i64 0]) 3 24 Try.underlying23 hi hz0 hz1 hz2 rfl (by decide) _ xs.length (cellsE xs) rfl hown4.out ⟨w.heap.size + 1, 0, none⟩ 1 1 (cell3 x) rfl rfl ?c1 ?c2 ?c3 ?c4 ?c5 ?_)
      case c1 => exact fun j u h => h
      case c2 => intro u hu; rcases List.mem_cons.1 hu with rfl | hu; rfl; rcases List.mem_cons.1 hu with rfl | hu; rfl; rcases List.mem_cons.1 hu with rfl | hu; rfl; cases hu
      case c3 => unfold maxLen; omega
      case c4 => omega
      case c5 => omega
      intro v' w3 hown3 hgrow3 _
      have hb3 := (((Below.refl base w).alloc hbase (.cells #[.int .i64 x.f, .int .i64 x.l, .int .i64 x.p] 29)).alloc (Nat.le_trans hbase (by simp)) (.cells #[.int .i64 x.f, .int .i64 x.l, .int .i64 x.p] 29)).drew.grown hgrow3 (Nat.le_trans hbase (by simp; omega)) (fun k hk => (hown4.out.lt k hk).1)
      go_wp2
      go_ret
      exact rowOf_snoc he2.out hown3 hb3
    · obtain ⟨k, hk⟩ : ∃ k, xs.length = k + 1 := ⟨xs.length - 1, by omega⟩
      have hkx : k < xs.length := by omega
      obtain ⟨a, ha⟩ : ∃ a, xs[k]? = some a := ⟨xs[k], List.getElem?_eq_getElem hkx⟩
      have hlast : xs.getLast? = some a := by rw [List.getLast?_eq_getElem?, hk, Nat.add_sub_cancel]; exact ha
      have he0 : addE xs x = if joinsB a x then xs.set k { a with l := wrap64 (a.l + x.l) } else xs ++ [x] := by unfold addE; rw [if_neg h1, hlast, hk, Nat.add_sub_cancel]
      obtain ⟨g, rfl⟩ : ∃ g, A = some ⟨g, 0, none⟩ := by
        rcases hown.2 with ⟨_, h⟩ | ⟨g, cap, cur, e, _⟩
        · omega
        · cases e; exact ⟨g, rfl⟩
      have hg := hown.lt g rfl
      obtain ⟨f0, f1, f2⟩ := cellsE_at xs k a ha
      have d0 : w.cell? ⟨g, k * 3, none⟩ = some (.int .i64 a.f) := by rw [hown.cellAt _ (by omega)]; exact f0
      have d1 : w.cell? ⟨g, k * 3 + 1, none⟩ = some (.int .i64 a.l) := by rw [hown.cellAt _ (by omega)]; exact f1
      have d2 : w.cell? ⟨g, k * 3 + 2, none⟩ = some (.int .i64 a.p) := by rw [hown.cellAt _ (by omega)]; exact f2
      have hbox : Below w.heap.size w (w.alloc (.cells #[.int .i64 x.f, .int .i64 x.l, .int .i64 x.p] 29)) := Below.news_ w _
      have e0 : (w.alloc (.cells #[.int .i64 x.f, .int .i64 x.l, .int .i64 x.p] 29)).cell? ⟨g, k * 3, none⟩ = some (.int .i64 a.f) := (hbox.cell hg.2).trans d0
      have e1 : (w.alloc (.cells #[.int .i64 x.f, .int .i64 x.l, .int .i64 x.p] 29)).cell? ⟨g, k * 3 + 1, none⟩ = some (.int .i64 a.l) := (hbox.cell hg.2).trans d1
      have e2 : (w.alloc (.cells #[.int .i64 x.f, .int .i64 x.l, .int .i64 x.p] 29)).cell? ⟨g, k * 3 + 2, none⟩ = some (.int .i64 a.p) := (hbox.cell hg.2).trans d2
      have hgW : g < (w.alloc (.cells #[.int .i64 x.f, .int .i64 x.l, .int .i64 x.p] 29)).heap.size := Nat.lt_of_lt_of_le hg.2 hbox.size
      have hBW : w.heap.size < (w.alloc (.cells #[.int .i64 x.f, .int .i64 x.l, .int .i64 x.p] 29)).heap.size := by simp
      have hpos : (0 : Int) < (xs.length : Int) := by omega
      have hj1 : IntKind.i64.wrap ((xs.length : Int) - 1) = (k : Int) := by rw [IntWalk.i64_left]; unfold wrap64; omega
      have hk0 : (0 : Int) ≤ (k : Int) := by omega
      have hk1 : (k : Int) < (xs.length : Int) := by omega
      have CJ := joins_any a x
      unfold ev at CJ
      have CJx := Lib.hid CJ
      have He0 := Lib.hid he0
      have Ha := Lib.hid ha
      have Hk := Lib.hid hk
      clear CJ he0 ha hk hlast f0 f1 f2 d0 d1 d2 hz
      generalize joinsB a x = bj at *
      go_upto_region 4 with fail
      refine wp_region_held_drew (S := fun w' => w'.cell? ⟨w.heap.size, 0, none⟩ = some (.int .i64 x.f) ∧ w'.cell? ⟨w.heap.size, 1, none⟩ = some (.int .i64 x.l) ∧ w'.cell? ⟨w.heap.size, 2, none⟩ = some (.int .i64 x.p) ∧ w'.cell? ⟨g, k * 3, none⟩ = some (.int .i64 a.f) ∧ w'.cell? ⟨g, k * 3 + 1, none⟩ = some (.int .i64 a.l) ∧ w'.cell? ⟨g, k * 3 + 2, none⟩ = some (.int .i64 a.p) ∧ Below (w.alloc (.cells #[.int .i64 x.f, .int .i64 x.l, .int .i64 x.p] 29)).heap.size (w.alloc (.cells #[.int .i64 x.f, .int .i64 x.l, .int .i64 x.p] 29)) w') (by kernel_rfl) ?_ (fun hHeld => ?_)
      · (refine ⟨?_, ?_, ?_, ?_, ?_, ?_, ?_⟩ <;> first | exact (Below.refl _ _).drew | go_keep)
      refine wpAnyH_take (i := 0) (oi := { dst := some 14, op := Op.move (Operand.tmp 5), type := 3, pos := "extent.go:43", after := #[], guard := none }) (v := ?vp0) rfl (by kernel_rfl) (by kernel_rfl) (by kernel_rfl) (fun _ _ _ h => h) (Or.inl ⟨by rfl, ?yp0⟩) (by assumption) ?_
      case yp0 => (intro w hSw; (try dsimp only at hSw); go_simp; first | done | with_reducible rfl)
      (try simp only [Act.put, List.setIfInBounds_toArray, List.set_cons_zero, List.set_cons_succ])
      refine wpAnyH_take (i := 1) (oi := { dst := some 15, op := Op.binOp BinOp.gtr 3 (Operand.tmp 14) (Operand.const (Value.int IntKind.i64 0)) 3, type := 4, pos := "extent.go:43", after := #[{ on := 0, ground := Ground.data }], guard := none }) (v := Value.bool true) rfl (by kernel_rfl) (by kernel_rfl) (by kernel_rfl) (fun _ _ _ h => h) (Or.inl ⟨by rfl, ?yp1⟩) (by assumption) ?_
      case yp1 => (intro w hSw; (try dsimp only at hSw); go_simp; first | done | assumption | omega | (simp only [IntWalk.i64_left]; first | assumption | omega) | (simp at *; assumption) | (simp at *; omega))
      (try simp only [Act.put, List.setIfInBounds_toArray, List.set_cons_zero, List.set_cons_succ])
      refine wpAnyH_take (i := 2) (oi := { dst := some 16, op := Op.move (Operand.tmp 15), type := 4, pos := "extent.go:43", after := #[{ on := 1, ground := Ground.data }], guard := none }) (v := ?vp2) rfl (by kernel_rfl) (by kernel_rfl) (by kernel_rfl) (fun _ _ _ h => h) (Or.inl ⟨by rfl, ?yp2⟩) (by assumption) ?_
      case yp2 => (intro w hSw; (try dsimp only at hSw); go_simp; first | done | with_reducible rfl)
      (try simp only [Act.put, List.setIfInBounds_toArray, List.set_cons_zero, List.set_cons_succ])
      refine wpAnyH_take (i := 3) (oi := { dst := some 17, op := Op.move (Operand.tmp 0), type := 23, pos := "extent.go:43", after := #[{ on := 2, ground := Ground.guard }], guard := some (2, true) }) (v := ?vp3) rfl (by kernel_rfl) (by kernel_rfl) (by kernel_rfl) (fun _ _ _ h => h) (Or.inl ⟨by rfl, ?yp3⟩) (by assumption) ?_
      case yp3 => (intro w hSw; (try dsimp only at hSw); go_simp; first | done | with_reducible rfl)
      (try simp only [Act.put, List.setIfInBounds_toArray, List.set_cons_zero, List.set_cons_succ])
      refine wpAnyH_take (i := 4) (oi := { dst := some 18, op := Op.move (Operand.tmp 5), type := 3, pos := "extent.go:43", after := #[{ on := 2, ground := Ground.guard }], guard := some (2, true) }) (v := ?vp4) rfl (by kernel_rfl) (by kernel_rfl) (by kernel_rfl) (fun _ _ _ h => h) (Or.inl ⟨by rfl, ?yp4⟩) (by assumption) ?_
      case yp4 => (intro w hSw; (try dsimp only at hSw); go_simp; first | done | with_reducible rfl)
      (try simp only [Act.put, List.setIfInBounds_toArray, List.set_cons_zero, List.set_cons_succ])
      refine wpAnyH_take (i := 5) (oi := { dst := some 19, op := Op.binOp BinOp.sub 3 (Operand.tmp 18) (Operand.const (Value.int IntKind.i64 1)) 3, type := 3, pos := "extent.go:43", after := #[{ on := 4, ground := Ground.data }, { on := 2, ground := Ground.guard }], guard := some (2, true) }) (v := ?vp5) rfl (by kernel_rfl) (by kernel_rfl) (by kernel_rfl) (fun _ _ _ h => h) (Or.inl ⟨by rfl, ?yp5⟩) (by assumption) ?_
      case yp5 => (intro w hSw; (try dsimp only at hSw); go_simp; first | done | with_reducible rfl)
      (try simp only [Act.put, List.setIfInBounds_toArray, List.set_cons_zero, List.set_cons_succ])
      refine wpAnyH_take (i := 6) (oi := { dst := some 20, op := Op.indexAddr 23 (Operand.tmp 17) (Operand.tmp 19), type := 0, pos := "extent.go:43", after := #[{ on := 3, ground := Ground.data }, { on := 5, ground := Ground.data }, { on := 2, ground := Ground.guard }], guard := some (2, true) }) (v := ?vp6) rfl (by kernel_rfl) (by kernel_rfl) (by kernel_rfl) (fun _ _ _ h => h) (Or.inl ⟨by rfl, ?yp6⟩) (by assumption) ?_
      case yp6 => (intro w hSw; (try dsimp only at hSw); go_simp; first | done | with_reducible rfl)
      (try simp only [Act.put, List.setIfInBounds_toArray, List.set_cons_zero, List.set_cons_succ])
      refine wpAnyH_take (i := 7) (oi := { dst := some 21, op := Op.load 29 (Operand.tmp 20), type := 29, pos := "extent.go:43", after := #[{ on := 6, ground := Ground.data }, { on := 2, ground := Ground.guard }], guard := some (2, true) }) (v := ?vp7) rfl (by kernel_rfl) (by kernel_rfl) (by kernel_rfl) (fun _ _ _ h => h) (Or.inl ⟨by rfl, ?yp7⟩) (by assumption) ?_
      case yp7 => (intro w hSw; (try dsimp only at hSw); go_simp; first | done | with_reducible rfl)
      (try simp only [Act.put, List.setIfInBounds_toArray, List.set_cons_zero, List.set_cons_succ])
      refine wpAnyH_take (i := 8) (oi := { dst := some 22, op := Op.load 29 (Operand.tmp 3), type := 29, pos := "extent.go:43", after := #[{ on := 2, ground := Ground.guard }], guard := some (2, true) }) (v := ?vp8) rfl (by kernel_rfl) (by kernel_rfl) (by kernel_rfl) (fun _ _ _ h => h) (Or.inl ⟨by rfl, ?yp8⟩) (by assumption) ?_
      case yp8 => (intro w hSw; (try dsimp only at hSw); go_simp; first | done | with_reducible rfl)
      (try simp only [Act.put, List.setIfInBounds_toArray, List.set_cons_zero, List.set_cons_succ])
      refine wpAnyH_ready (rs := [9]) (by kernel_rfl) (by simp) ?_
      refine AllReadyH.cons (o := { dst := some 23, op := Op.call { callee := Callee.value (Operand.func 23), args := #[Operand.tmp 21, Operand.tmp 22], argTypes := #[29, 29] }, type := 4, pos := "extent.go:43", after := #[{ on := 7, ground := Ground.data }, { on := 8, ground := Ground.data }, { on := 2, ground := Ground.chain }, { on := 2, ground := Ground.guard }], guard := some (2, true) }) rfl (fun K hK => ?_) AllReadyH.nil
      go_simp
      refine (CJx.out _).mono ?_
      rintro e w5 ⟨rfl, hb5⟩
      refine hK.out _ _ ?_ (fun hHeld => ?_)
      · (try dsimp only); exact keepX hBW hgW (by assumption) hb5
      clear hK K
      (try simp only [Act.put, List.setIfInBounds_toArray, List.set_cons_zero, List.set_cons_succ])
      refine wpAnyH_take (i := 10) (oi := { dst := some 24, op := Op.pick (Operand.tmp 16) (Operand.tmp 23) (Operand.const (Value.bool false)), type := 4, pos := "extent.go:43", after := #[{ on := 2, ground := Ground.data }, { on := 9, ground := Ground.data }], guard := none }) (v := ?vp10) rfl (by kernel_rfl) (by kernel_rfl) (by kernel_rfl) (fun _ _ _ h => h) (Or.inl ⟨by rfl, ?yp10⟩) (by assumption) ?_
      case yp10 => (intro w hSw; (try dsimp only at hSw); go_simp; first | done | with_reducible rfl)
      (try simp only [Act.put, List.setIfInBounds_toArray, List.set_cons_zero, List.set_cons_succ])
      refine wpAnyH_take (i := 11) (oi := { dst := some 13, op := Op.assign (Operand.tmp 24), type := 4, pos := "extent.go:43", after := #[{ on := 10, ground := Ground.data }, { on := 9, ground := Ground.chain }], guard := none }) (v := ?vp11) rfl (by kernel_rfl) (by kernel_rfl) (by kernel_rfl) (fun _ _ _ h => h) (Or.inl ⟨by rfl, ?yp11⟩) (by assumption) ?_
      case yp11 => (intro w hSw; (try dsimp only at hSw); go_simp; first | done | with_reducible rfl)
      (try simp only [Act.put, List.setIfInBounds_toArray, List.set_cons_zero, List.set_cons_succ])
      refine wpAnyH_done (by kernel_rfl) ?_ _
      have HS : Below (w.alloc (.cells #[.int .i64 x.f, .int .i64 x.l, .int .i64 x.p] 29)).heap.size (w.alloc (.cells #[.int .i64 x.f, .int .i64 x.l, .int .i64 x.p] 29)) w5 := hHeld.2.2.2.2.2.2
      have hown5 := (hown.alloc (.cells #[.int .i64 x.f, .int .i64 x.l, .int .i64 x.p] 29)).belowK HS
      have hB5 : Below base w w5 := ((Below.refl base w).alloc hbase (.cells #[.int .i64 x.f, .int .i64 x.l, .int .i64 x.p] 29)).trans (HS.mono (Nat.le_trans hbase hbox.size))
      have hbase5 : base ≤ w5.heap.size := Nat.le_trans hbase hB5.size
      obtain ⟨y0, y1, y2, y3, y4, y5, _⟩ := hHeld
      have Hown5 := Lib.hid hown5
      cases bj
      · have he2 := Lib.hid (He0.out.trans (if_neg (by simp)))
        have hown4 := Lib.hid (hown5.alloc (.cells #[.int .i64 x.f, .int .i64 x.l, .int .i64 x.p] 29))
        clear hown hown5 hpos hn0 He0 e0 e1 e2 hj1 hk0 hk1 Ha Hk y3 y4 y5
        go_wp2_with (at_builtin; refine wpList_append_own _ rfl _ _ 23 rfl base 29 i0 (.agg #[.int .i64 0, .int .i64 0, .int .i64 0]) 3 24 Try.underlying23 hi hz0 hz1 hz2 rfl (by decide) _ xs.length (cellsE xs) rfl hown4.out ⟨w5.heap.size, 0, none⟩ 1 1 (cell3 x) rfl rfl ?c1 ?c2 ?c3 ?c4 ?c5 ?_)
        case c1 => exact fun j u h => h
        case c2 => intro u hu; rcases List.mem_cons.1 hu with rfl | hu; rfl; rcases List.mem_cons.1 hu with rfl | hu; rfl; rcases List.mem_cons.1 hu with rfl | hu; rfl; cases hu
        case c3 => unfold maxLen; omega
        case c4 => omega
        case c5 => omega
        intro v' w6 hown6 hgrow6 _
        have hb6 := (hB5.alloc hbase5 (.cells #[.int .i64 x.f, .int .i64 x.l, .int .i64 x.p] 29)).grown hgrow6 (Nat.le_trans hbase5 (by simp)) (fun k hk => (hown4.out.lt k hk).1)
        go_wp2
        go_ret
        exact rowOf_snoc he2.out hown6 hb6
      · have he := He0.out.trans (if_pos rfl)
        have hs := cellsE_set xs k a (wrap64 (a.l + x.l)) Ha.out
        have hst := hown5.stored (k * 3 + 1) (.int .i64 (wrap64 (a.l + x.l)))
        rw [hs, ← he] at hst
        have hlen : (addE xs x).length = xs.length := by rw [he, List.length_set]
        have Hst := Lib.hid hst
        have Hlen := Lib.hid hlen
        have hfr := hown5.frozenAt (k * 3 + 1)
        clear hs he hst hlen hown hown5 e0 e1 e2 He0
        have hfd := hfr
        go_upto_region 5 with fail
        go_region
        go_wp2
        go_ret
        exact ⟨_, rfl, by rw [Hlen.out]; exact Hst.out.1.drew, (hB5.grown Hst.out.2 hbase5 (fun k hk => by cases hk; exact hg.1)).drew⟩
end Go.Proofs.Ytefbhcpcbolbiaa
