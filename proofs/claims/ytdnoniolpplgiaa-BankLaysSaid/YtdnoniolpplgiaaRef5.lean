/- Slices of words, one appended to another one of no room; a word's place: contracts. -/
import Derived.Test.YtdnoniolpplgiaaRef4
import Derived.ArgAppend
import Derived.Deep.Upon
namespace Go.Proofs.Ytdnoniolpplgiaa
open Go.RowKit Go.Maps Go.Sort Go.Shelf

theorem add_lit (b off k : Nat) : (⟨b, off, none⟩ : Addr).add k = ⟨b, off + k, none⟩ := by unfold Addr.add; split <;> simp_all
def cell6 (x : Wd) : List Value := [.int .i64 x.at_, .int .u64 x.stays, .int .u64 x.holds, .bool x.dirty, .bool x.way, .int .u64 x.sent]
def cellsW (xs : List Wd) : List Value := xs.flatMap cell6
theorem cellsW_len (xs : List Wd) : (cellsW xs).length = xs.length * 6 := by
  induction xs with
  | nil => rfl
  | cons x t ih => unfold cellsW at *; rw [List.flatMap_cons, List.length_append, ih]; simp [cell6]; omega
theorem cellsW_append (xs ys : List Wd) : cellsW (xs ++ ys) = cellsW xs ++ cellsW ys := by unfold cellsW; rw [List.flatMap_append]
theorem cellsW_at (xs : List Wd) : ∀ (i : Nat) (x : Wd), xs[i]? = some x → ∀ q, q < 6 → (cellsW xs)[i * 6 + q]? = (cell6 x)[q]? := by
  induction xs with
  | nil => intro i x h; simp at h
  | cons y t ih =>
    intro i x h q hq
    have e : cellsW (y :: t) = cell6 y ++ cellsW t := by unfold cellsW; rw [List.flatMap_cons]
    have l6 : (cell6 y).length = 6 := rfl
    rw [e]
    cases i with
    | zero =>
      simp at h; subst h
      rw [List.getElem?_append_left (by omega)]
      rw [show 0 * 6 + q = q by omega]
    | succ i =>
      rw [List.getElem?_append_right (by omega), l6, show (i + 1) * 6 + q - 6 = i * 6 + q by omega]
      exact ih i x (by simpa using h) q hq
theorem cellsW_one (xs : List Wd) : ∀ u ∈ cellsW xs, u.oneCell' = true := by
  intro u hu
  obtain ⟨x, _, hx⟩ := List.mem_flatMap.1 hu
  simp only [cell6, List.mem_cons, List.not_mem_nil, or_false] at hx
  rcases hx with rfl | rfl | rfl | rfl | rfl | rfl <;> rfl

/-- A slice of words: what it reads as, its room, where it lies. -/
def WdS (w : World) (A : Option Addr) (n c : Nat) (xs : List Wd) : Prop :=
  xs.length = n ∧ n ≤ c ∧ ((A = none ∧ c = 0) ∨ ∃ b off, A = some ⟨b, off, none⟩ ∧ b < w.heap.size ∧ ∀ i, (h : i < xs.length) → WdAt w b (off + i * 6) xs[i])
theorem WdAt.below {w w' : World} {b o : Nat} {x : Wd} (h : WdAt w b o x) (hl : b < w.heap.size) (hb : Below w.heap.size w w') : WdAt w' b o x := h.block (hb.block b hl)
theorem WdS.below {w w' : World} {A : Option Addr} {n c : Nat} {xs : List Wd} (h : WdS w A n c xs) (hb : Below w.heap.size w w') : WdS w' A n c xs :=
  ⟨h.1, h.2.1, h.2.2.imp id (fun ⟨b, off, e, hl, hc⟩ => ⟨b, off, e, Nat.lt_of_lt_of_le hl hb.size, fun i hi => (hc i hi).below hl hb⟩)⟩
theorem WdS.take {w : World} {A : Option Addr} {n c : Nat} {xs : List Wd} (h : WdS w A n c xs) {k : Nat} (hk : k ≤ n) : WdS w A k k (xs.take k) := by
  obtain ⟨h1, h2, h3⟩ := h
  refine ⟨by rw [List.length_take]; omega, Nat.le_refl _, h3.imp (fun ⟨e, h0⟩ => ⟨e, by omega⟩) ?_⟩
  rintro ⟨b, off, rfl, hl, hc⟩
  refine ⟨b, off, rfl, hl, fun i hi => ?_⟩
  rw [List.length_take] at hi
  rw [List.getElem_take]
  exact hc i (by omega)
theorem WdS.drop {w : World} {b off n c : Nat} {xs : List Wd} (h : WdS w (some ⟨b, off, none⟩) n c xs) {k : Nat} (hk : k ≤ n) : WdS w (if c = k then some ⟨b, off, none⟩ else some ⟨b, off + k * 6, none⟩) (n - k) (c - k) (xs.drop k) := by
  obtain ⟨h1, h2, h3⟩ := h
  refine ⟨by rw [List.length_drop]; omega, by omega, .inr ?_⟩
  rcases h3 with ⟨e, _⟩ | ⟨b2, off2, e, hl, hc⟩
  · cases e
  · cases e
    by_cases h0 : c = k
    · rw [if_pos h0]
      exact ⟨b, off, rfl, hl, fun i hi => by rw [List.length_drop] at hi; omega⟩
    · rw [if_neg h0]
      refine ⟨b, off + k * 6, rfl, hl, fun i hi => ?_⟩
      rw [List.length_drop] at hi
      rw [List.getElem_drop]
      have := hc (k + i) (by omega)
      rw [show off + k * 6 + i * 6 = off + (k + i) * 6 by omega]
      exact this
theorem wds_cells {w : World} {b off n c : Nat} {xs : List Wd} (h : WdS w (some ⟨b, off, none⟩) n c xs) : ∀ j u, (cellsW xs)[j]? = some u → w.cell? ((⟨b, off, none⟩ : Addr).add j) = some u := by
  intro j u hu
  have hj := (List.getElem?_eq_some_iff.1 hu).1
  rw [cellsW_len] at hj
  have hi : j / 6 < xs.length := by omega
  rcases h.2.2 with ⟨e, _⟩ | ⟨b2, off2, e, hl, hc⟩
  · cases e
  · cases e
    obtain ⟨c0, c1, c2, c3, c4, c5⟩ := hc _ hi
    have hq := cellsW_at xs (j / 6) _ (List.getElem?_eq_getElem hi)
    rw [add_lit]
    have h6 : j = j / 6 * 6 + 0 ∨ j = j / 6 * 6 + 1 ∨ j = j / 6 * 6 + 2 ∨ j = j / 6 * 6 + 3 ∨ j = j / 6 * 6 + 4 ∨ j = j / 6 * 6 + 5 := by omega
    rcases h6 with h6 | h6 | h6 | h6 | h6 | h6
    · rw [h6, hq 0 (by omega)] at hu; rw [h6]; cases hu; exact c0
    · rw [h6, hq 1 (by omega)] at hu; rw [h6]; cases hu; rw [← Nat.add_assoc]; exact c1
    · rw [h6, hq 2 (by omega)] at hu; rw [h6]; cases hu; rw [← Nat.add_assoc]; exact c2
    · rw [h6, hq 3 (by omega)] at hu; rw [h6]; cases hu; rw [← Nat.add_assoc]; exact c3
    · rw [h6, hq 4 (by omega)] at hu; rw [h6]; cases hu; rw [← Nat.add_assoc]; exact c4
    · rw [h6, hq 5 (by omega)] at hu; rw [h6]; cases hu; rw [← Nat.add_assoc]; exact c5
theorem wds_of_row {w : World} {base n c : Nat} {X : Option Addr} {xs : List Wd} (h : w.ownsRow base 94 6 (.slice X n c) n (cellsW xs)) (hn : 0 < n) : ∃ g, X = some ⟨g, 0, none⟩ ∧ base ≤ g ∧ g < w.heap.size ∧ WdS w X n c xs ∧ ∀ o, w.frozen? ⟨g, o, none⟩ = false := by
  have hl := h.1
  rw [cellsW_len] at hl
  have hl : xs.length = n := by omega
  have hr := h
  rcases h.2 with ⟨_, h0⟩ | ⟨g, cap, cur, e, hg, hh, hc, _⟩
  · omega
  · cases e
    have hlt := (hr.lt g rfl).2
    refine ⟨g, rfl, hg, hlt, ⟨hl, hc, .inr ⟨g, 0, rfl, hlt, fun i hi => ?_⟩⟩, fun o => by simp [World.frozen?, hh]⟩
    have hq := cellsW_at xs i xs[i] (List.getElem?_eq_getElem hi)
    have key : ∀ q, q < 6 → w.cell? ⟨g, 0 + i * 6 + q, none⟩ = (cell6 xs[i])[q]? := fun q hq6 => by
      rw [Nat.zero_add, h.cellAt _ (by omega), hq q hq6]
    exact ⟨key 0 (by omega), key 1 (by omega), key 2 (by omega), key 3 (by omega), key 4 (by omega), key 5 (by omega)⟩

theorem Try.info94 : (Try.prog.info? 94).map (fun i => (i.zero, i.size, i.bytes)) = some (some (.agg #[.int .i64 0, .int .u64 0, .int .u64 0, .bool false, .bool false, .int .u64 0]), 6, 40) := by kernel_rfl

theorem run_appW {w : World} (ty : TypeId) (S : Option Addr) (k : Nat) (xs : List Wd) (hS : WdS w S k k xs) (Y : Option Addr) (m c : Nat) (ys : List Wd) (hY : WdS w Y m c ys) (hk : k + m ≤ 100000) :
    ∃ X' c' w', (Builtin.append_ #[49, 49] ty #[.slice S k k, .slice Y m c]).run Try.prog w = .ok (.slice X' (k + m) c') w' ∧ WdS w' X' (k + m) c' (xs ++ ys) ∧ (m = 0 ∧ X' = S ∧ c' = k ∧ w' = w ∨ 0 < m ∧ ∃ g, X' = some ⟨g, 0, none⟩ ∧ w.heap.size ≤ g ∧ ∀ o, w'.frozen? ⟨g, o, none⟩ = false) ∧ Below w.heap.size w w' := by
  obtain ⟨i0, hi, hz0, hz1, hz2⟩ := info_parts Try.info94
  have hly := cellsW_len ys
  have hlx := cellsW_len xs
  have hyl := hY.1
  have hxl := hS.1
  rcases Nat.eq_zero_or_pos m with h0 | h0
  · subst h0
    have hys : ys = [] := List.length_eq_zero_iff.1 hyl
    subst hys
    have hsrc : Src Try.prog i0.size 49 (.slice Y 0 c) 0 [] w := by
      rcases hY.2.2 with ⟨rfl, _⟩ | ⟨b, off, rfl, _⟩
      · exact Src.ofNil w Try.underlying49 c
      · exact Src.ofSlice w Try.underlying49 _ 0 c [] (by simp) (fun j u h => by simp at h) (fun u h => by cases h)
    have hrun := run_append_nothing w 49 49 ty 94 i0 Try.underlying49 hi S k k (Nat.le_refl _) _ hsrc
    exact ⟨S, k, w, hrun, by rw [List.append_nil]; exact hS, .inl ⟨rfl, rfl, rfl, rfl⟩, Below.refl _ _⟩
  · obtain ⟨b, off, rfl⟩ : ∃ b off, Y = some ⟨b, off, none⟩ := by
      rcases hY.2.2 with ⟨_, hc0⟩ | ⟨b, off, e, _⟩
      · have := hY.2.1; omega
      · exact ⟨b, off, e⟩
    have hnews := wds_cells hY
    have key : ∃ v' w', (Builtin.append_ #[49, 49] ty #[.slice S k k, .slice (some ⟨b, off, none⟩) m c]).run Try.prog w = .ok v' w' ∧ w'.ownsRow w.heap.size 94 6 v' (k + m) (cellsW xs ++ cellsW ys) ∧ w.grownBy w' none := by
      rcases hS.2.2 with ⟨rfl, hk0⟩ | ⟨b2, off2, rfl, _⟩
      · subst hk0
        have hxs : xs = [] := List.length_eq_zero_iff.1 hxl
        subst hxs
        obtain ⟨v', w', hrun, hown, hg, _⟩ := run_append_own (P := Try.prog) (w := w) w.heap.size 49 ty 94 i0 _ 6 40 Try.underlying49 hi hz0 hz1 hz2 rfl (by decide) (.slice none 0 0) 0 [] (World.ownsRow_nil _ _ _ _) ⟨b, off, none⟩ m c (cellsW ys) (by omega) hnews (cellsW_one ys) (by unfold maxLen; omega) (by omega) (Nat.le_refl _)
        exact ⟨v', w', hrun, hown, hg⟩
      · exact run_append_arg_grows w 49 ty 94 i0 _ 6 40 Try.underlying49 hi hz0 hz1 hz2 rfl (by decide) ⟨b2, off2, none⟩ k k (cellsW xs) (by omega) (wds_cells hS) ⟨b, off, none⟩ m c (cellsW ys) (by omega) hnews (by omega) (by unfold maxLen; omega) (by omega)
    obtain ⟨v', w', hrun, hown, hg⟩ := key
    rw [← cellsW_append] at hown
    obtain ⟨X', c', rfl⟩ := own_slice hown
    obtain ⟨g, rfl, h1, h2, h3, h4⟩ := wds_of_row hown (by omega)
    exact ⟨_, _, w', hrun, h3, .inr ⟨h0, g, rfl, h1, h4⟩, ⟨hg.os, hg.tape, hg.output, hg.size, fun i hi => hg.block i hi (by simp)⟩⟩

theorem step_appW {ops : Array Oper} {o : Oper} {a : Act} {w : World} {K : Act → World → Prop} {Q : Exit → Act → World → Prop} {E : Prop} (hg : o.guard = none) (s x : Operand)
    (hop : o.op = Op.call { callee := Callee.builtin Builtin.append, args := #[s, x], argTypes := #[49, 49] })
    (S : Option Addr) (k : Nat) (xs : List Wd) (hs : a.eval s = .slice S k k) (Y : Option Addr) (m c : Nat) (ys : List Wd) (hx : a.eval x = .slice Y m c) (hS : WdS w S k k xs) (hY : WdS w Y m c ys) (hk : k + m ≤ 100000)
    (hK : ∀ X' c' w', WdS w' X' (k + m) c' (xs ++ ys) → (m = 0 ∧ X' = S ∧ c' = k ∧ w' = w ∨ 0 < m ∧ ∃ g, X' = some ⟨g, 0, none⟩ ∧ w.heap.size ≤ g ∧ ∀ o, w'.frozen? ⟨g, o, none⟩ = false) → Below w.heap.size w w' → K (a.put o.dst (.slice X' (k + m) c')) w') :
    if Region.wanted o (yielded ops a.tmps) = true then Oper.wp Try.prog o a w K Q else E := by
  have hw : Region.wanted o (yielded ops a.tmps) = true := by simp [Region.wanted, hg]
  rw [if_pos hw]
  obtain ⟨X', c', w', hrun, h1, h2, h3⟩ := run_appW o.type S k xs hS Y m c ys hY hk
  unfold Oper.wp
  simp [execOp, hop, resolve, invoke, builtin, hs, hx, hrun, Result.andThen]
  exact hK X' c' w' h1 h2 h3
end Go.Proofs.Ytdnoniolpplgiaa
