/- What makes one tree of another one: a contract (package diff). -/
import Derived.Test.YtdnmacehfbjiiaaKeys
namespace Go.Proofs.Ytdnmacehfbjiiaa
open Go.RowKit Go.Maps Go.Sort Go.Shelf

theorem info9 : (Try.prog.info? 9).map (fun i => (i.zero, i.size, i.bytes)) = some (some (encStr []), 1, 16) := by kernel_rfl
theorem info33 : (Try.prog.info? 33).map (fun i => (i.zero, i.size, i.bytes)) = some (some (.agg #[encStr [], .int .i64 0]), 2, 24) := by kernel_rfl
theorem own_slice {base e size : Nat} {w : World} {v : Value} {n : Nat} {xs : List Value} (h : w.ownsRow base e size v n xs) : ∃ A c, v = .slice A n c := by
  rcases h.2 with ⟨rfl, rfl⟩ | ⟨g, cap, cur, rfl, _⟩
  · exact ⟨none, 0, rfl⟩
  · exact ⟨_, _, rfl⟩

/-- Strings in memory. -/
def Strs (w : World) (A : Option Addr) (n : Nat) (ps : List Str) : Prop :=
  ps.length = n ∧ (ps = [] ∨ ∃ b off, A = some ⟨b, off, none⟩ ∧ b < w.heap.size ∧ ∀ i, (h : i < ps.length) → w.cell? ⟨b, off + i, none⟩ = some (encStr ps[i]))
theorem Strs.below {w w' : World} {A : Option Addr} {n : Nat} {ps : List Str} (h : Strs w A n ps) (hb : Below w.heap.size w w') : Strs w' A n ps := by
  refine ⟨h.1, ?_⟩
  rcases h.2 with h | ⟨b, off, rfl, hl, hc⟩
  · exact .inl h
  · exact .inr ⟨b, off, rfl, Nat.lt_of_lt_of_le hl hb.size, fun i hi => (hb.cell hl).trans (hc i hi)⟩
theorem Strs.at {w : World} {A : Option Addr} {n : Nat} {ps : List Str} (h : Strs w A n ps) {i : Nat} (hi : i < n) : ∃ b off, A = some ⟨b, off, none⟩ ∧ b < w.heap.size ∧ ∃ x, ps[i]? = some x ∧ w.cell? ⟨b, off + i, none⟩ = some (encStr x) := by
  have hx : i < ps.length := by rw [h.1]; exact hi
  rcases h.2 with h2 | ⟨b, off, rfl, hl, hc⟩
  · subst h2; simp at hx
  · exact ⟨b, off, rfl, hl, ps[i], List.getElem?_eq_getElem hx, hc i hx⟩
theorem strs_of_row {w : World} {base n c : Nat} {X : Option Addr} {ps : List Str} (hl : ps.length = n) (h : w.ownsRow base 9 1 (.slice X n c) n (ps.map encStr)) : Strs w X n ps := by
  refine ⟨hl, ?_⟩
  rcases h.2 with ⟨_, h0⟩ | ⟨g, cap, cur, e, _⟩
  · left; exact List.length_eq_zero_iff.1 (by omega)
  · cases e
    right
    refine ⟨g, 0, rfl, (h.lt g rfl).2, fun i hi => ?_⟩
    rw [Nat.zero_add, h.cellAt _ (by omega), List.getElem?_map, List.getElem?_eq_getElem hi]; rfl

/-- Changes. -/
abbrev Ch := Str × Int
def cellsC (cs : List Ch) : List Value := cs.flatMap (fun c => [encStr c.1, .int .i64 c.2])
theorem cellsC_len (cs : List Ch) : (cellsC cs).length = cs.length * 2 := by
  unfold cellsC
  induction cs with
  | nil => rfl
  | cons x t ih => rw [List.flatMap_cons, List.length_append, ih]; simp; omega
theorem cellsC_append (a b : List Ch) : cellsC (a ++ b) = cellsC a ++ cellsC b := by unfold cellsC; rw [List.flatMap_append]
theorem cellsC_at (cs : List Ch) : ∀ i : Nat, (h : i < cs.length) → (cellsC cs)[i * 2]? = some (encStr cs[i].1) ∧ (cellsC cs)[i * 2 + 1]? = some (.int .i64 cs[i].2) := by
  induction cs with
  | nil => intro i h; simp at h
  | cons x t ih =>
    intro i h
    have e : cellsC (x :: t) = encStr x.1 :: .int .i64 x.2 :: cellsC t := by unfold cellsC; rw [List.flatMap_cons]; rfl
    rw [e]
    cases i with
    | zero => simp
    | succ i =>
      have := ih i (by simpa using h)
      rw [show (i + 1) * 2 = i * 2 + 1 + 1 by omega, show i * 2 + 1 + 1 + 1 = (i * 2 + 1) + 1 + 1 by omega]
      simpa using this
def Changes (w : World) (A : Option Addr) (n : Nat) (cs : List Ch) : Prop :=
  cs.length = n ∧ (cs = [] ∨ ∃ b off, A = some ⟨b, off, none⟩ ∧ b < w.heap.size ∧ ∀ i, (h : i < cs.length) → w.cell? ⟨b, off + i * 2, none⟩ = some (encStr cs[i].1) ∧ w.cell? ⟨b, off + i * 2 + 1, none⟩ = some (.int .i64 cs[i].2))
theorem Changes.below {w w' : World} {A : Option Addr} {n : Nat} {cs : List Ch} (h : Changes w A n cs) (hb : Below w.heap.size w w') : Changes w' A n cs := by
  refine ⟨h.1, ?_⟩
  rcases h.2 with h | ⟨b, off, rfl, hl, hc⟩
  · exact .inl h
  · exact .inr ⟨b, off, rfl, Nat.lt_of_lt_of_le hl hb.size, fun i hi => ⟨(hb.cell hl).trans (hc i hi).1, (hb.cell hl).trans (hc i hi).2⟩⟩
theorem Changes.at {w : World} {A : Option Addr} {n : Nat} {cs : List Ch} (h : Changes w A n cs) {i : Nat} (hi : i < n) : ∃ b off, A = some ⟨b, off, none⟩ ∧ b < w.heap.size ∧ ∃ x, cs[i]? = some x ∧ w.cell? ⟨b, off + i * 2, none⟩ = some (encStr x.1) ∧ w.cell? ⟨b, off + i * 2 + 1, none⟩ = some (.int .i64 x.2) := by
  have hx : i < cs.length := by rw [h.1]; exact hi
  rcases h.2 with h2 | ⟨b, off, rfl, hl, hc⟩
  · subst h2; simp at hx
  · exact ⟨b, off, rfl, hl, cs[i], List.getElem?_eq_getElem hx, hc i hx⟩
theorem changes_of_row {w : World} {base n c : Nat} {X : Option Addr} {cs : List Ch} (hl : cs.length = n) (h : w.ownsRow base 33 2 (.slice X n c) n (cellsC cs)) : Changes w X n cs := by
  refine ⟨hl, ?_⟩
  rcases h.2 with ⟨_, h0⟩ | ⟨g, cap, cur, e, _⟩
  · left; exact List.length_eq_zero_iff.1 (by omega)
  · cases e
    right
    refine ⟨g, 0, rfl, (h.lt g rfl).2, fun i hi => ?_⟩
    have hc := cellsC_at cs i hi
    rw [Nat.zero_add]
    exact ⟨by rw [h.cellAt _ (by omega)]; exact hc.1, by rw [h.cellAt _ (by omega)]; exact hc.2⟩
theorem cell_two_new (w : World) (x y : Value) (t : TypeId) : ∀ j u, [x, y][j]? = some u → (w.alloc (.cells #[x, y] t)).cell? ((⟨w.heap.size, 0, none⟩ : Addr).add j) = some u := by
  intro j u hj
  match j, hj with
  | 0, hj => simp at hj; subst hj; simp [Addr.add]
  | 1, hj => simp at hj; subst hj; simp [Addr.add]

/-- What became of a path. -/
def chK (fa fb : Str → Option It) (p : Str) : Int := if (fa p).isSome = false then 1 else if (fb p).isSome = false then 2 else kindI ((fa p).getD It.zero) ((fb p).getD It.zero)
def chs (fa fb : Str → Option It) (ps : List Str) : List Ch := ps.filterMap (fun p => if chK fa fb p ≠ 0 then some (p, chK fa fb p) else none)
theorem chs_snoc_yes {fa fb : Str → Option It} {ps : List Str} {p : Str} (h : chK fa fb p ≠ 0) : chs fa fb (ps ++ [p]) = chs fa fb ps ++ [(p, chK fa fb p)] := by
  unfold chs; rw [List.filterMap_append]; simp [h]
theorem chs_snoc_no {fa fb : Str → Option It} {ps : List Str} {p : Str} (h : chK fa fb p = 0) : chs fa fb (ps ++ [p]) = chs fa fb ps := by
  unfold chs; rw [List.filterMap_append]; simp [h]
theorem chs_len (fa fb : Str → Option It) (ps : List Str) : (chs fa fb ps).length ≤ ps.length := List.length_filterMap_le _ _
theorem firstF_mem {xs : List It} {k : Str} {x : It} (h : firstF xs k = some x) : x ∈ xs ∧ x.p = k := by
  unfold firstF at h
  exact ⟨List.mem_of_find?_eq_some h, by simpa using List.find?_some h⟩
theorem good_get {w : World} {A : Option Addr} {n : Nat} {xs : List It} (h : Items w A n xs) (k : Str) : Good w ((firstF xs k).getD It.zero) := by
  cases e : firstF xs k with
  | none => exact good_zero w
  | some x => exact h.2.1 x (firstF_mem e).1
end Go.Proofs.Ytdnmacehfbjiiaa
