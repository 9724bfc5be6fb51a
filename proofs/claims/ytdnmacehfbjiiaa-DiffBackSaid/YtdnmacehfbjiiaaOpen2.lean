/- A string and changes that come in. -/
import Derived.Test.YtdnmacehfbjiiaaOpen
import Derived.Test.YtdnmacehfbjiiaaOf
namespace Go.Proofs.Ytdnmacehfbjiiaa
open Go.RowKit Go.Deep Go.ChangeShapes Go.WideShapes Go.Joins
section
variable {H : Type} {enc : TypeId × Value → H} {w : World} {base : Nat} {held : Bool}
theorem string_in {P : Program} {t : TypeId} {v : Value} {d : DataW H} {ps : List MemPlace} {r : Reach} {b0 : Nat} (ht : P.underlying t = some .string) (hval : Value.okWide P w r b0 t v)
    (h : DataW.Trod enc P w base (fun _ => true) held t v d ps) : ∃ b : Str, v = encStr b ∧ b.length ≤ maxLen := by
  obtain ⟨z, rfl⟩ := okWide_string ht hval
  obtain ⟨fuel, hf⟩ := h
  obtain ⟨s, hcs, _, hs⟩ := DataW.trod_string ht hf
  simp [Value.cells] at hcs
  subst hcs
  exact ⟨z.data.toList, rfl, by simpa using hs⟩
theorem changes_in {P : Program} {t e : TypeId} {f0 f1 : Field} {a : Option Addr} {len cap : Nat} {d : DataW H} {ps : List MemPlace} (ht : P.underlying t = some (.slice e)) (he : P.underlying e = some (.struct #[f0, f1]))
    (ce : P.cellsOf e = 2) (o0 : f0.offset = 0) (o1 : f1.offset = 1) (t0 : f0.type = 9) (t1 : f1.type = 3) (h9 : P.underlying 9 = some .string) (h3 : P.underlying 3 = some (.int .i64)) (c9 : P.cellsOf 9 = 1) (c3 : P.cellsOf 3 = 1)
    (h : DataW.Trod enc P w base (fun _ => true) held t (.slice a len cap) d ps) : ∃ cs, Changes w a len cs ∧ len ≤ maxLen ∧ ∀ c ∈ cs, c.1.length ≤ maxLen := by
  obtain ⟨fuel, hf⟩ := h
  rcases open_slice ht hf with ⟨hcs, _⟩ | ⟨x, l, c, m, n, D, Pl, hcs, _, hl, hm, hmm, _, hx⟩
  · simp [Value.cells] at hcs
    obtain ⟨rfl, rfl, rfl⟩ := hcs
    exact ⟨[], ⟨rfl, .inl rfl⟩, by unfold maxLen; omega, fun c hc => by cases hc⟩
  · simp [Value.cells] at hcs
    obtain ⟨rfl, rfl, rfl⟩ := hcs
    simp only [if_true] at hmm
    subst hmm
    have each : ∀ i, i < len → ∃ q : Ch, (w.cell? (x.add (i * 2)) = some (Go.Proofs.encStr q.1) ∧ w.cell? (x.add (i * 2 + 1)) = some (.int .i64 q.2)) ∧ q.1.length ≤ maxLen := by
      intro i hi
      obtain ⟨cs', h1, h2⟩ := hx i (by omega)
      rw [ce] at h1
      obtain ⟨_, hlen, hcell⟩ := World.cells?_some h1
      obtain ⟨ys, k, hk, hxy, _, hxl, hg⟩ := DataW.trod_struct he h2
      match ys, hxl, cs', hlen with
      | [y0, y1], _, [v0, v1], _ =>
        have g0 := hg 0 f0 rfl
        have g1 := hg 1 f1 rfl
        simp [o0, o1, t0, t1, c9, c3] at g0 g1
        obtain ⟨n0, r0, _, q0⟩ := DataW.trod_string h9 g0
        obtain ⟨n1, r1, _, _⟩ := DataW.trod_int h3 g1
        simp at r0 r1
        subst r0 r1
        have e0 := hcell 0 (by omega)
        have e1 := hcell 1 (by omega)
        rw [add_add] at e0 e1
        exact ⟨(n0.data.toList, n1), ⟨by simpa [Go.Proofs.encStr] using e0, by simpa using e1⟩, by simpa using q0⟩
    have inh : Inhabited Ch := ⟨([], 0)⟩
    obtain ⟨Q, hQ⟩ := choose_lt each
    refine ⟨(List.range len).map Q, ⟨by simp, ?_⟩, by omega, ?_⟩
    · by_cases h0 : len = 0
      · subst h0; exact .inl rfl
      · right
        have h1 := (hQ 0 (by omega)).1.1
        have hx0 : x.add (0 * 2) = x := by unfold Addr.add; simp
        rw [hx0] at h1
        have hs := spot_none h1
        have hbl := World.block_lt_of_cell? w _ h1
        obtain ⟨b, off, sp⟩ := x
        simp only at hs
        subst hs
        refine ⟨b, off, rfl, hbl, fun i hi => ?_⟩
        have hi' : i < len := by simpa using hi
        obtain ⟨⟨e0, e1⟩, _⟩ := hQ i hi'
        rw [at_lit] at e0 e1
        simp only [List.getElem_map, List.getElem_range]
        exact ⟨e0, by rw [Nat.add_assoc]; exact e1⟩
    · intro y hy
      obtain ⟨i, hi, rfl⟩ := List.mem_map.1 hy
      exact (hQ i (List.mem_range.1 hi)).2
end
end Go.Proofs.Ytdnmacehfbjiiaa
