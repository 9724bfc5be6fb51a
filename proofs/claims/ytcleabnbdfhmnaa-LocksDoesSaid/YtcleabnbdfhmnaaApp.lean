/- Slices of deeds, one appended to another one of no room, as a step of a region that draws its order. -/
import Derived.Test.YtcleabnbdfhmnaaPlain
namespace Go.Proofs.Ytcleabnbdfhmnaa
open Go.RowKit Go.Maps Go.Sort Go.Shelf

def cell4 (x : De) : List Value := [.int .i64 x.k, .int .i64 x.d.who, .int .i64 x.d.ino, .bool x.d.al]
def cellsD (xs : List De) : List Value := xs.flatMap cell4
theorem cellsD_len (xs : List De) : (cellsD xs).length = xs.length * 4 := by
  induction xs with
  | nil => rfl
  | cons x t ih => unfold cellsD at *; rw [List.flatMap_cons, List.length_append, ih]; simp [cell4]; omega
theorem cellsD_append (xs ys : List De) : cellsD (xs ++ ys) = cellsD xs ++ cellsD ys := by unfold cellsD; rw [List.flatMap_append]
theorem cellsD_at (xs : List De) : ∀ (i : Nat) (x : De), xs[i]? = some x → (cellsD xs)[i * 4]? = some (.int .i64 x.k) ∧ (cellsD xs)[i * 4 + 1]? = some (.int .i64 x.d.who) ∧ (cellsD xs)[i * 4 + 2]? = some (.int .i64 x.d.ino) ∧ (cellsD xs)[i * 4 + 3]? = some (.bool x.d.al) := by
  induction xs with
  | nil => intro i x h; simp at h
  | cons y t ih =>
    intro i x h
    have e : cellsD (y :: t) = cell4 y ++ cellsD t := by unfold cellsD; rw [List.flatMap_cons]
    rw [e]
    cases i with
    | zero => simp at h; subst h; simp [cell4]
    | succ i =>
      obtain ⟨h0, h1, h2, h3⟩ := ih i x (by simpa using h)
      have l4 : (cell4 y).length = 4 := rfl
      rw [List.getElem?_append_right (by omega), List.getElem?_append_right (by omega), List.getElem?_append_right (by omega), List.getElem?_append_right (by omega), l4,
        show (i + 1) * 4 - 4 = i * 4 by omega, show (i + 1) * 4 + 1 - 4 = i * 4 + 1 by omega, show (i + 1) * 4 + 2 - 4 = i * 4 + 2 by omega, show (i + 1) * 4 + 3 - 4 = i * 4 + 3 by omega]
      exact ⟨h0, h1, h2, h3⟩
theorem cellsD_one (xs : List De) : ∀ u ∈ cellsD xs, u.oneCell' = true := by
  intro u hu
  obtain ⟨x, _, hx⟩ := List.mem_flatMap.1 hu
  rcases List.mem_cons.1 hx with rfl | hx
  · rfl
  rcases List.mem_cons.1 hx with rfl | hx
  · rfl
  rcases List.mem_cons.1 hx with rfl | hx
  · rfl
  rcases List.mem_cons.1 hx with rfl | hx
  · rfl
  cases hx
theorem add_lit' (b off k : Nat) : (⟨b, off, none⟩ : Addr).add k = ⟨b, off + k, none⟩ := by unfold Addr.add; split <;> simp_all

theorem deeds_cells {w : World} {b off n : Nat} {xs : List De} (h : Deeds w (some ⟨b, off, none⟩) n xs) : ∀ j u, (cellsD xs)[j]? = some u → w.cell? ((⟨b, off, none⟩ : Addr).add j) = some u := by
  intro j u hu
  have hj := (List.getElem?_eq_some_iff.1 hu).1
  rw [cellsD_len] at hj
  have hi : j / 4 < xs.length := by omega
  rcases h.2 with h2 | ⟨b2, off2, e, hl, hc⟩
  · subst h2; simp at hi
  · cases e
    obtain ⟨c0, c1, c2, c3⟩ := hc _ hi
    obtain ⟨d0, d1, d2, d3⟩ := cellsD_at xs (j / 4) _ (List.getElem?_eq_getElem hi)
    rw [add_lit']
    have h3 : j = j / 4 * 4 ∨ j = j / 4 * 4 + 1 ∨ j = j / 4 * 4 + 2 ∨ j = j / 4 * 4 + 3 := by omega
    rcases h3 with h3 | h3 | h3 | h3
    · rw [h3] at hu ⊢; rw [d0] at hu; cases hu; exact c0
    · rw [h3] at hu ⊢; rw [d1] at hu; cases hu; rw [← Nat.add_assoc]; exact c1
    · rw [h3] at hu ⊢; rw [d2] at hu; cases hu; rw [← Nat.add_assoc]; exact c2
    · rw [h3] at hu ⊢; rw [d3] at hu; cases hu; rw [← Nat.add_assoc]; exact c3

/-- A row of the call's own reads as these deeds. -/
theorem deeds_of_row {w : World} {base n c : Nat} {X : Option Addr} {xs : List De} (h : w.ownsRow base 27 4 (.slice X n c) n (cellsD xs)) : Deeds w X n xs := by
  have hl := h.1
  rw [cellsD_len] at hl
  have hl : xs.length = n := by omega
  refine ⟨hl, ?_⟩
  rcases h.2 with ⟨_, h0⟩ | ⟨g, cap, cur, e, _⟩
  · left; exact List.length_eq_zero_iff.1 (by omega)
  · cases e
    right
    refine ⟨g, 0, rfl, (h.lt g rfl).2, fun i hi => ?_⟩
    obtain ⟨h0, h1, h2, h3⟩ := cellsD_at xs i xs[i] (List.getElem?_eq_getElem hi)
    rw [Nat.zero_add, h.cellAt _ (by omega), h.cellAt _ (by omega), h.cellAt _ (by omega), h.cellAt _ (by omega)]
    exact ⟨h0, h1, h2, h3⟩

/-- A slice of deeds: what it reads as, its room, where it lies. -/
structure SlI (w : World) (X : Option Addr) (n c : Nat) (xs : List De) : Prop where
  rd : Deeds w X n xs
  cap : n ≤ c
  at_ : (X = none ∧ c = 0) ∨ ∃ b off, X = some ⟨b, off, none⟩ ∧ b < w.heap.size
theorem SlI.below {w w' : World} {X : Option Addr} {n c : Nat} {xs : List De} (h : SlI w X n c xs) (hb : Below w.heap.size w w') : SlI w' X n c xs :=
  ⟨h.rd.below hb, h.cap, h.at_.imp id (fun ⟨b, off, e, hl⟩ => ⟨b, off, e, Nat.lt_of_lt_of_le hl hb.size⟩)⟩

/-- The first k. -/
theorem SlI.take {w : World} {X : Option Addr} {n c : Nat} {xs : List De} (h : SlI w X n c xs) {k : Nat} (hk : k ≤ n) : SlI w X k k (xs.take k) := by
  have hl := h.rd.1
  refine ⟨⟨by rw [List.length_take]; omega, ?_⟩, Nat.le_refl _, h.at_.imp (fun ⟨e, h0⟩ => ⟨e, by have := h.cap; omega⟩) id⟩
  rcases h.rd.2 with h2 | ⟨b, off, rfl, hb, hc⟩
  · left; rw [h2]; simp
  · right
    refine ⟨b, off, rfl, hb, fun i hi => ?_⟩
    rw [List.length_take] at hi
    rw [List.getElem_take]
    exact hc i (by omega)
/-- .. from k on. -/
theorem Deeds.drop {w : World} {b off n : Nat} {xs : List De} (h : Deeds w (some ⟨b, off, none⟩) n xs) {k : Nat} (hk : k ≤ n) : Deeds w (some ⟨b, off + k * 4, none⟩) (n - k) (xs.drop k) := by
  have hl := h.1
  refine ⟨by rw [List.length_drop]; omega, ?_⟩
  rcases h.2 with h2 | ⟨b2, off2, e, hb, hc⟩
  · left; rw [h2]; simp
  · cases e
    right
    refine ⟨b, off + k * 4, rfl, hb, fun i hi => ?_⟩
    rw [List.length_drop] at hi
    rw [List.getElem_drop]
    have := hc (k + i) (by omega)
    rw [show off + k * 4 + i * 4 = off + (k + i) * 4 by omega]
    exact this

theorem Try.info27 : (Try.prog.info? 27).map (fun i => (i.zero, i.size, i.bytes)) = some (some (.agg #[.int .i64 0, .int .i64 0, .int .i64 0, .bool false]), 4, 32) := by kernel_rfl

theorem run_app {w : World} (ty : TypeId) (S : Option Addr) (k : Nat) (xs : List De) (hS : SlI w S k k xs) (Y : Option Addr) (m c : Nat) (ys : List De) (hY : Deeds w Y m ys) (hYn : Y = none ∨ ∃ b off, Y = some ⟨b, off, none⟩) (hk : k + m ≤ 1000) :
    ∃ X' c' w', (Builtin.append_ #[22, 22] ty #[.slice S k k, .slice Y m c]).run Try.prog w = .ok (.slice X' (k + m) c') w' ∧ SlI w' X' (k + m) c' (xs ++ ys) ∧ (X' = S ∨ ∃ g, X' = some ⟨g, 0, none⟩ ∧ w.heap.size ≤ g) ∧ Below w.heap.size w w' := by
  obtain ⟨i0, hi, hz0, hz1, hz2⟩ := info_parts Try.info27
  have hly := cellsD_len ys
  have hlx := cellsD_len xs
  have hyl := hY.1
  have hxl := hS.rd.1
  rcases Nat.eq_zero_or_pos m with h0 | h0
  · subst h0
    have hys : ys = [] := List.length_eq_zero_iff.1 hyl
    subst hys
    have hsrc : Src Try.prog i0.size 22 (.slice Y 0 c) 0 [] w := by
      rcases hYn with rfl | ⟨b, off, rfl⟩
      · exact Src.ofNil w Try.underlying22 c
      · exact Src.ofSlice w Try.underlying22 _ 0 c [] (by simp) (fun j u h => by simp at h) (fun u h => by cases h)
    have hrun := run_append_nothing w 22 22 ty 27 i0 Try.underlying22 hi S k k (Nat.le_refl _) _ hsrc
    exact ⟨S, k, w, hrun, by rw [List.append_nil]; exact hS, .inl rfl, Below.refl _ _⟩
  · obtain ⟨b, off, rfl⟩ : ∃ b off, Y = some ⟨b, off, none⟩ := by
      rcases hY.2 with h2 | ⟨b, off, e, _⟩
      · subst h2; simp at hyl; omega
      · exact ⟨b, off, e⟩
    have hnews := deeds_cells hY
    have key : ∃ v' w', (Builtin.append_ #[22, 22] ty #[.slice S k k, .slice (some ⟨b, off, none⟩) m c]).run Try.prog w = .ok v' w' ∧ w'.ownsRow w.heap.size 27 4 v' (k + m) (cellsD xs ++ cellsD ys) ∧ w.grownBy w' none := by
      rcases hS.at_ with ⟨rfl, hk0⟩ | ⟨b2, off2, rfl, _⟩
      · subst hk0
        have hxs : xs = [] := List.length_eq_zero_iff.1 hxl
        subst hxs
        obtain ⟨v', w', hrun, hown, hg, _⟩ := run_append_own (P := Try.prog) (w := w) w.heap.size 22 ty 27 i0 _ 4 32 Try.underlying22 hi hz0 hz1 hz2 rfl (by decide) (.slice none 0 0) 0 [] (World.ownsRow_nil _ _ _ _) ⟨b, off, none⟩ m c (cellsD ys) (by omega) hnews (cellsD_one ys) (by unfold maxLen; omega) (by omega) (Nat.le_refl _)
        exact ⟨v', w', hrun, hown, hg⟩
      · exact run_append_arg_grows w 22 ty 27 i0 _ 4 32 Try.underlying22 hi hz0 hz1 hz2 rfl (by decide) ⟨b2, off2, none⟩ k k (cellsD xs) (by omega) (deeds_cells hS.rd) ⟨b, off, none⟩ m c (cellsD ys) (by omega) hnews (by omega) (by unfold maxLen; omega) (by omega)
    obtain ⟨v', w', hrun, hown, hg⟩ := key
    rw [← cellsD_append] at hown
    have hown0 := hown
    rcases hown.2 with ⟨_, h1⟩ | ⟨g, cap, cur, rfl, hge, _, hc, _⟩
    · omega
    · exact ⟨_, _, w', hrun, ⟨deeds_of_row hown0, hc, .inr ⟨g, 0, rfl, (hown0.lt g rfl).2⟩⟩, .inr ⟨g, rfl, hge⟩, ⟨hg.os, hg.tape, hg.output, hg.size, fun i hi => hg.block i hi (by simp)⟩⟩

/-- .. as a step. -/
theorem step_app {ops : Array Oper} {o : Oper} {a : Act} {w : World} {K : Act → World → Prop} {Q : Exit → Act → World → Prop} {E : Prop} (hg : o.guard = none) (s x : Operand)
    (hop : o.op = Op.call { callee := Callee.builtin Builtin.append, args := #[s, x], argTypes := #[22, 22] })
    (S : Option Addr) (k : Nat) (xs : List De) (hs : a.eval s = .slice S k k) (Y : Option Addr) (m c : Nat) (ys : List De) (hx : a.eval x = .slice Y m c) (hS : SlI w S k k xs) (hY : Deeds w Y m ys) (hYn : Y = none ∨ ∃ b off, Y = some ⟨b, off, none⟩) (hk : k + m ≤ 1000)
    (hK : ∀ X' c' w', SlI w' X' (k + m) c' (xs ++ ys) → (X' = S ∨ ∃ g, X' = some ⟨g, 0, none⟩ ∧ w.heap.size ≤ g) → Below w.heap.size w w' → K (a.put o.dst (.slice X' (k + m) c')) w') :
    if Region.wanted o (yielded ops a.tmps) = true then Oper.wp Try.prog o a w K Q else E := by
  have hw : Region.wanted o (yielded ops a.tmps) = true := by simp [Region.wanted, hg]
  rw [if_pos hw]
  obtain ⟨X', c', w', hrun, h1, h2, h3⟩ := run_app o.type S k xs hS Y m c ys hY hYn hk
  unfold Oper.wp
  simp [execOp, hop, resolve, invoke, builtin, hs, hx, hrun, Result.andThen]
  exact hK X' c' w' h1 h2 h3
end Go.Proofs.Ytcleabnbdfhmnaa
