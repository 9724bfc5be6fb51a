/- Words, and rows of words, that come in. -/
import Derived.Test.YtdnoniolpplgiaaOpen
import Derived.Test.YtdnoniolpplgiaaLay
namespace Go.Proofs.Ytdnoniolpplgiaa
open Go.RowKit Go.Deep Go.ChangeShapes Go.WideShapes Go.Joins
/-- A row of words, as a slice. -/
structure Wl where
  a : Option Addr
  n : Nat
  c : Nat
  xs : List Int
/-- Rows of words; the words lie below this block. -/
def Rows_ (w : World) (lo : Nat) (A : Option Addr) (n : Nat) (rs : List Wl) : Prop :=
  rs.length = n ∧ (∀ r ∈ rs, Words w r.a r.n r.xs ∧ r.n ≤ maxLen ∧ (r.xs ≠ [] → ∀ x, r.a = some x → x.block < lo)) ∧
  (rs = [] ∨ ∃ b off, A = some ⟨b, off, none⟩ ∧ b < w.heap.size ∧ ∀ i, (h : i < rs.length) → w.cell? ⟨b, off + i, none⟩ = some (.slice rs[i].a rs[i].n rs[i].c))
section
variable {H : Type} {enc : TypeId × Value → H} {w : World} {base : Nat} {held : Bool}
theorem words_of {P : Program} {t : TypeId} {v : Value} {x : DataW H × List MemPlace} {fuel : Nat} (ht : P.underlying t = some (.slice 28)) (he : P.underlying 28 = some (.int .u64)) (hc : P.cellsOf 28 = 1)
    (h : DataW.trod enc P w base (fun _ => true) held fuel t [v] = some x) : ∃ a len cap xs, v = .slice a len cap ∧ Words w a len xs ∧ len ≤ maxLen ∧ (xs ≠ [] → ∀ x, a = some x → x.block < w.heap.size) := by
  rcases open_slice1 ht hc h with ⟨hcs, _⟩ | ⟨x, l, c, m, n, V, D, Pl, hcs, _, hl, hm, hmm, _, hx⟩
  · simp at hcs
    subst hcs
    exact ⟨none, 0, 0, [], rfl, ⟨rfl, .inl rfl⟩, by unfold maxLen; omega, fun h => absurd rfl h⟩
  · simp at hcs
    subst hcs
    simp only [if_true] at hmm
    subst hmm
    have each : ∀ i, i < l → ∃ z : Int, w.cell? (x.add i) = some (.int .u64 z) := by
      intro i hi
      obtain ⟨h1, h2⟩ := hx i (by omega)
      obtain ⟨z, r, _, _⟩ := DataW.trod_int he h2
      simp at r
      exact ⟨z, by rw [h1, r]⟩
    obtain ⟨Z, hZ⟩ := choose_lt each
    have key : l ≠ 0 → x.spot = none ∧ x.block < w.heap.size := by
      intro h0
      have h1 := hZ 0 (by omega)
      have hx : x.add 0 = x := by unfold Addr.add; simp
      rw [hx] at h1
      exact ⟨spot_none h1, World.block_lt_of_cell? w _ h1⟩
    refine ⟨some x, l, _, (List.range l).map Z, rfl, ⟨by simp, ?_⟩, by omega, fun hne y hy => ?_⟩
    · by_cases h0 : l = 0
      · subst h0; exact .inl rfl
      · right
        obtain ⟨hs, hbl⟩ := key h0
        obtain ⟨b, off, sp⟩ := x
        simp only at hs
        subst hs
        refine ⟨b, off, rfl, hbl, fun i hi => ?_⟩
        have hi' : i < l := by simpa using hi
        have := hZ i hi'
        rw [at_lit] at this
        rw [this]; simp
    · cases hy
      refine (key ?_).2
      rintro rfl
      exact hne rfl
theorem words_in {P : Program} {t : TypeId} {a : Option Addr} {len cap : Nat} {d : DataW H} {ps : List MemPlace} (ht : P.underlying t = some (.slice 28)) (he : P.underlying 28 = some (.int .u64)) (hc : P.cellsOf 28 = 1)
    (h : DataW.Trod enc P w base (fun _ => true) held t (.slice a len cap) d ps) : ∃ xs, Words w a len xs ∧ len ≤ maxLen ∧ (xs ≠ [] → ∀ x, a = some x → x.block < w.heap.size) := by
  obtain ⟨fuel, hf⟩ := h
  obtain ⟨a', len', cap', xs, e, h1, h2, h3⟩ := words_of ht he hc (show DataW.trod enc P w base (fun _ => true) held fuel t [.slice a len cap] = some _ from hf)
  cases e
  exact ⟨xs, h1, h2, h3⟩
theorem rows_in {P : Program} {t : TypeId} {a : Option Addr} {len cap : Nat} {d : DataW H} {ps : List MemPlace} (ht : P.underlying t = some (.slice 53)) (h53 : P.underlying 53 = some (.slice 28)) (he : P.underlying 28 = some (.int .u64)) (hc : P.cellsOf 28 = 1) (hc2 : P.cellsOf 53 = 1)
    (h : DataW.Trod enc P w base (fun _ => true) held t (.slice a len cap) d ps) : ∃ rs, Rows_ w w.heap.size a len rs ∧ len ≤ maxLen := by
  obtain ⟨fuel, hf⟩ := h
  rcases open_slice1 ht hc2 (show DataW.trod enc P w base (fun _ => true) held fuel t [.slice a len cap] = some _ from hf) with ⟨hcs, _⟩ | ⟨x, l, c, m, n, V, D, Pl, hcs, _, hl, hm, hmm, _, hx⟩
  · simp at hcs
    obtain ⟨rfl, rfl, rfl⟩ := hcs
    exact ⟨[], ⟨rfl, (fun z hz => by cases hz), .inl rfl⟩, by unfold maxLen; omega⟩
  · simp at hcs
    obtain ⟨rfl, rfl, rfl⟩ := hcs
    simp only [if_true] at hmm
    subst hmm
    have each : ∀ i, i < len → ∃ r : Wl, w.cell? (x.add i) = some (.slice r.a r.n r.c) ∧ Words w r.a r.n r.xs ∧ r.n ≤ maxLen ∧ (r.xs ≠ [] → ∀ x, r.a = some x → x.block < w.heap.size) := by
      intro i hi
      obtain ⟨h1, h2⟩ := hx i (by omega)
      obtain ⟨a3, l3, c3, xs, e, q1, q2, q3⟩ := words_of h53 he hc h2
      exact ⟨⟨a3, l3, c3, xs⟩, by rw [h1, e], q1, q2, q3⟩
    have inh : Inhabited Wl := ⟨⟨none, 0, 0, []⟩⟩
    obtain ⟨Z, hZ⟩ := choose_lt each
    refine ⟨(List.range len).map Z, ⟨by simp, fun r hr => ?_, ?_⟩, by omega⟩
    · obtain ⟨i, hi, rfl⟩ := List.mem_map.1 hr
      exact (hZ i (List.mem_range.1 hi)).2
    · by_cases h0 : len = 0
      · subst h0; exact .inl rfl
      · right
        have h1 := (hZ 0 (by omega)).1
        have hx0 : x.add 0 = x := by unfold Addr.add; simp
        rw [hx0] at h1
        have hs := spot_none h1
        have hbl := World.block_lt_of_cell? w _ h1
        obtain ⟨b, off, sp⟩ := x
        simp only at hs
        subst hs
        refine ⟨b, off, rfl, hbl, fun i hi => ?_⟩
        have hi' : i < len := by simpa using hi
        have := (hZ i hi').1
        rw [at_lit] at this
        rw [this]; simp
end
end Go.Proofs.Ytdnoniolpplgiaa
