/- How numbers and extents that came in are opened. -/
import Derived.Test.YtefbhcpcbolbiaaInts
import Derived.Deep.Slices
import Derived.ChangeSlices
import Derived.OpenShut
import Derived.ProofKit
namespace Go.Proofs.Ytefbhcpcbolbiaa
open Go.RowKit Go.Deep Go.ChangeShapes Go.WideShapes
section
variable {H : Type} {enc : TypeId × Value → H} {w : World} {base : Nat} {held : Bool}

theorem spot_none {x : Addr} {v : Value} (h : w.cell? x = some v) : x.spot = none := by
  unfold World.cell? at h
  split at h
  · split at h
    · cases h
    · rename_i hs; simpa using hs
  · cases h

theorem wf_i64 {n : Int} (h : (Lit.int .i64 n).wf = true) : -9223372036854775808 ≤ n ∧ n < 9223372036854775808 := by
  simp [Lit.wf, IntKind.min, IntKind.max, IntKind.signed, IntKind.bits] at h
  omega

theorem ints_in {P : Program} {t : TypeId} {a : Option Addr} {len cap : Nat} {d : DataW H} {ps : List MemPlace} (ht : P.underlying t = some (.slice 3)) (he : P.underlying 3 = some (.int .i64)) (hc : P.cellsOf 3 = 1)
    (h : DataW.Trod enc P w base (fun _ => true) held t (.slice a len cap) d ps) : ∃ zs, Ints w a len zs ∧ len ≤ maxLen ∧ ∀ z ∈ zs, -9223372036854775808 ≤ z ∧ z < 9223372036854775808 := by
  obtain ⟨fuel, hf⟩ := h
  rcases open_ints ht he hc hf with ⟨hcs, _⟩ | ⟨x, l, c, zs, hcs, _, hl, hm, hz, _, hcell, hwf⟩
  · simp [Value.cells] at hcs
    obtain ⟨rfl, rfl, rfl⟩ := hcs
    exact ⟨[], ⟨rfl, .inl rfl⟩, by unfold maxLen; omega, fun z hz => by cases hz⟩
  · simp [Value.cells] at hcs
    obtain ⟨rfl, rfl, rfl⟩ := hcs
    simp only [if_true] at hz
    refine ⟨zs.take len, ⟨by rw [List.length_take]; omega, ?_⟩, by omega, fun z h => wf_i64 (hwf z (List.mem_of_mem_take h))⟩
    by_cases h0 : len = 0
    · subst h0; exact .inl rfl
    · right
      have h1 := hcell 0 (by omega)
      have hx : x.add 0 = x := by unfold Addr.add; simp
      rw [hx] at h1
      have hs := spot_none h1
      obtain ⟨b, off, sp⟩ := x
      simp only at hs
      subst hs
      refine ⟨b, off, rfl, World.block_lt_of_cell? w _ h1, fun i hi => ?_⟩
      rw [List.length_take] at hi
      have := hcell i (by omega)
      rw [show (⟨b, off, none⟩ : Addr).add i = ⟨b, off + i, none⟩ from by unfold Addr.add; split <;> simp_all] at this
      rw [this, List.getElem_take, List.getD_eq_getElem?_getD, List.getElem?_eq_getElem (by omega)]; rfl

theorem exts_in {P : Program} {t e : TypeId} {f0 f1 f2 : Field} {a : Option Addr} {len cap : Nat} {d : DataW H} {ps : List MemPlace} (ht : P.underlying t = some (.slice e)) (he : P.underlying e = some (.struct #[f0, f1, f2]))
    (ce : P.cellsOf e = 3) (o0 : f0.offset = 0) (o1 : f1.offset = 1) (o2 : f2.offset = 2) (t0 : f0.type = 3) (t1 : f1.type = 3) (t2 : f2.type = 3) (h3 : P.underlying 3 = some (.int .i64)) (c3 : P.cellsOf 3 = 1)
    (h : DataW.Trod enc P w base (fun _ => true) held t (.slice a len cap) d ps) : ∃ xs, Exts w a len xs ∧ len ≤ maxLen ∧ ∀ x ∈ xs, (-9223372036854775808 ≤ x.f ∧ x.f < 9223372036854775808) ∧ (-9223372036854775808 ≤ x.l ∧ x.l < 9223372036854775808) ∧ (-9223372036854775808 ≤ x.p ∧ x.p < 9223372036854775808) := by
  obtain ⟨fuel, hf⟩ := h
  rcases open_slice ht hf with ⟨hcs, _⟩ | ⟨x, l, c, m, n, D, Pl, hcs, _, hl, hm, hmm, _, hx⟩
  · simp [Value.cells] at hcs
    obtain ⟨rfl, rfl, rfl⟩ := hcs
    exact ⟨[], ⟨rfl, .inl rfl⟩, by unfold maxLen; omega, fun z hz => by cases hz⟩
  · simp [Value.cells] at hcs
    obtain ⟨rfl, rfl, rfl⟩ := hcs
    simp only [if_true] at hmm
    subst hmm
    have each : ∀ i, i < len → ∃ q : E, w.cell? (x.add (i * 3)) = some (.int .i64 q.f) ∧ w.cell? (x.add (i * 3 + 1)) = some (.int .i64 q.l) ∧ w.cell? (x.add (i * 3 + 2)) = some (.int .i64 q.p) ∧ (-9223372036854775808 ≤ q.f ∧ q.f < 9223372036854775808) ∧ (-9223372036854775808 ≤ q.l ∧ q.l < 9223372036854775808) ∧ (-9223372036854775808 ≤ q.p ∧ q.p < 9223372036854775808) := by
      intro i hi
      obtain ⟨cs', h1, h2⟩ := hx i (by omega)
      rw [ce] at h1
      obtain ⟨_, hlen, hcell⟩ := World.cells?_some h1
      obtain ⟨ys, k, hk, hxy, _, hxl, hg⟩ := DataW.trod_struct he h2
      match ys, hxl, cs', hlen with
      | [y0, y1, y2], _, [v0, v1, v2], _ =>
        have g0 := hg 0 f0 rfl
        have g1 := hg 1 f1 rfl
        have g2 := hg 2 f2 rfl
        simp [o0, o1, o2, t0, t1, t2, c3] at g0 g1 g2
        obtain ⟨n0, r0, _, q0⟩ := DataW.trod_int h3 g0
        obtain ⟨n1, r1, _, q1⟩ := DataW.trod_int h3 g1
        obtain ⟨n2, r2, _, q2⟩ := DataW.trod_int h3 g2
        simp at r0 r1 r2
        subst r0 r1 r2
        have e0 := hcell 0 (by omega)
        have e1 := hcell 1 (by omega)
        have e2 := hcell 2 (by omega)
        rw [add_add] at e0 e1 e2
        exact ⟨⟨n0, n1, n2⟩, by simpa using e0, by simpa using e1, by simpa using e2, wf_i64 q0, wf_i64 q1, wf_i64 q2⟩
    have inh : Inhabited E := ⟨⟨0, 0, 0⟩⟩
    obtain ⟨Q, hQ⟩ := choose_lt each
    refine ⟨(List.range len).map Q, ⟨by simp, ?_⟩, by omega, ?_⟩
    · by_cases h0 : len = 0
      · subst h0; exact .inl rfl
      · right
        have h1 := (hQ 0 (by omega)).1
        have hx0 : x.add (0 * 3) = x := by unfold Addr.add; simp
        rw [hx0] at h1
        have hs := spot_none h1
        obtain ⟨b, off, sp⟩ := x
        simp only at hs
        subst hs
        refine ⟨b, off, rfl, World.block_lt_of_cell? w _ h1, fun i hi => ?_⟩
        have hi' : i < len := by simpa using hi
        obtain ⟨e0, e1, e2, _⟩ := hQ i hi'
        have hadd : ∀ k, (⟨b, off, none⟩ : Addr).add k = ⟨b, off + k, none⟩ := fun k => by unfold Addr.add; split <;> simp_all
        rw [hadd] at e0 e1 e2
        simp only [List.getElem_map, List.getElem_range]
        exact ⟨e0, by rw [Nat.add_assoc]; exact e1, by rw [Nat.add_assoc]; exact e2⟩
    · intro y hy
      obtain ⟨i, hi, rfl⟩ := List.mem_map.1 hy
      exact (hQ i (List.mem_range.1 hi)).2.2.2
end
end Go.Proofs.Ytefbhcpcbolbiaa
