/- How deeds, numbers, words and bools that came in are opened. -/
import Derived.Test.YtdnoniolpplgiaaDeeds
import Derived.Deep.Slices
import Derived.Deep.Grids
import Derived.Lib.SmallJoins
import Derived.ChangeSlices
import Derived.OpenShut
import Derived.ProofKit
namespace Go.Proofs.Ytdnoniolpplgiaa
open Go.RowKit Go.Deep Go.ChangeShapes Go.WideShapes Go.Joins
section
variable {H : Type} {enc : TypeId × Value → H} {w : World} {base : Nat} {held : Bool}

theorem spot_none {x : Addr} {v : Value} (h : w.cell? x = some v) : x.spot = none := by
  unfold World.cell? at h
  split at h
  · split at h
    · cases h
    · rename_i hs; simpa using hs
  · cases h
theorem wf_i64 {n : Int} (h : (Lit.int .i64 n).wf = true) : W64 n := by
  simp [Lit.wf, IntKind.min, IntKind.max, IntKind.signed, IntKind.bits] at h
  unfold W64
  omega
theorem at_lit (b off k : Nat) : (⟨b, off, none⟩ : Addr).add k = ⟨b, off + k, none⟩ := by unfold Addr.add; split <;> simp_all
theorem bools_of {P : Program} {t : TypeId} {v : Value} {x : DataW H × List MemPlace} {fuel : Nat} (ht : P.underlying t = some (.slice 4)) (he : P.underlying 4 = some .bool) (hc : P.cellsOf 4 = 1)
    (h : DataW.trod enc P w base (fun _ => true) held fuel t [v] = some x) : ∃ a len cap bs, v = .slice a len cap ∧ Bools w a len bs ∧ (bs ≠ [] → ∀ x, a = some x → x.block < w.heap.size) := by
  rcases open_bools ht he hc h with ⟨hcs, _⟩ | ⟨x, l, c, B, hcs, _, hl, hm, _, hcell⟩
  · simp at hcs
    subst hcs
    exact ⟨none, 0, 0, [], rfl, ⟨rfl, .inl rfl⟩, fun h => absurd rfl h⟩
  · simp at hcs
    subst hcs
    have key : l ≠ 0 → x.spot = none ∧ x.block < w.heap.size := by
      intro h0
      have h1 := hcell 0 (by omega)
      have hx : x.add 0 = x := by unfold Addr.add; simp
      rw [hx] at h1
      exact ⟨spot_none h1, World.block_lt_of_cell? w _ h1⟩
    refine ⟨some x, l, c, (List.range l).map B, rfl, ⟨by simp, ?_⟩, fun hne y hy => ?_⟩
    · by_cases h0 : l = 0
      · subst h0; exact .inl rfl
      · right
        obtain ⟨hs, hbl⟩ := key h0
        obtain ⟨b, off, sp⟩ := x
        simp only at hs
        subst hs
        refine ⟨b, off, rfl, hbl, fun i hi => ?_⟩
        have hi' : i < l := by simpa using hi
        have := hcell i (by omega)
        rw [at_lit] at this
        rw [this]; simp
    · cases hy
      refine (key ?_).2
      rintro rfl
      exact hne rfl
theorem bools_in {P : Program} {t : TypeId} {a : Option Addr} {len cap : Nat} {d : DataW H} {ps : List MemPlace} (ht : P.underlying t = some (.slice 4)) (he : P.underlying 4 = some .bool) (hc : P.cellsOf 4 = 1)
    (h : DataW.Trod enc P w base (fun _ => true) held t (.slice a len cap) d ps) : ∃ bs, Bools w a len bs ∧ (bs ≠ [] → ∀ x, a = some x → x.block < w.heap.size) := by
  obtain ⟨fuel, hf⟩ := h
  obtain ⟨a', len', cap', bs, e, h1, h2⟩ := bools_of ht he hc (show DataW.trod enc P w base (fun _ => true) held fuel t [.slice a len cap] = some _ from hf)
  cases e
  exact ⟨bs, h1, h2⟩

theorem deeds_in {P : Program} {t e : TypeId} {f0 f1 f2 f3 : Field} {a : Option Addr} {len cap : Nat} {d : DataW H} {ps : List MemPlace} (ht : P.underlying t = some (.slice e)) (he : P.underlying e = some (.struct #[f0, f1, f2, f3]))
    (ce : P.cellsOf e = 4) (o0 : f0.offset = 0) (o1 : f1.offset = 1) (o2 : f2.offset = 2) (o3 : f3.offset = 3) (t0 : f0.type = 3) (t1 : f1.type = 3) (t2 : f2.type = 28) (t3 : f3.type = 29) (h3 : P.underlying 3 = some (.int .i64)) (h28 : P.underlying 28 = some (.int .u64)) (h29 : P.underlying 29 = some (.slice 4)) (h4 : P.underlying 4 = some .bool) (c3 : P.cellsOf 3 = 1) (c28 : P.cellsOf 28 = 1) (c29 : P.cellsOf 29 = 1) (c4 : P.cellsOf 4 = 1)
    (h : DataW.Trod enc P w base (fun _ => true) held t (.slice a len cap) d ps) : ∃ xs, Deeds w w.heap.size a len xs ∧ len ≤ maxLen ∧ ∀ x ∈ xs, W64 x.i := by
  obtain ⟨fuel, hf⟩ := h
  rcases open_slice ht hf with ⟨hcs, _⟩ | ⟨x, l, c, m, n, D, Pl, hcs, _, hl, hm, hmm, _, hx⟩
  · simp [Value.cells] at hcs
    obtain ⟨rfl, rfl, rfl⟩ := hcs
    exact ⟨[], ⟨rfl, (fun z hz => by cases hz), .inl rfl⟩, by unfold maxLen; omega, fun z hz => by cases hz⟩
  · simp [Value.cells] at hcs
    obtain ⟨rfl, rfl, rfl⟩ := hcs
    simp only [if_true] at hmm
    subst hmm
    have each : ∀ i, i < len → ∃ q : De, (w.cell? (x.add (i * 4)) = some (.int .i64 q.k) ∧ w.cell? (x.add (i * 4 + 1)) = some (.int .i64 q.i) ∧ w.cell? (x.add (i * 4 + 2)) = some (.int .u64 q.v) ∧ w.cell? (x.add (i * 4 + 3)) = some (.slice q.ka q.kn q.kc)) ∧ W64 q.i ∧ Bools w q.ka q.kn q.keep ∧ (q.keep ≠ [] → ∀ a, q.ka = some a → a.block < w.heap.size) := by
      intro i hi
      obtain ⟨cs', h1, h2⟩ := hx i (by omega)
      rw [ce] at h1
      obtain ⟨_, hlen, hcell⟩ := World.cells?_some h1
      obtain ⟨ys, k, hk, hxy, _, hxl, hg⟩ := DataW.trod_struct he h2
      match ys, hxl, cs', hlen with
      | [y0, y1, y2, y3], _, [v0, v1, v2, v3], _ =>
        have g0 := hg 0 f0 rfl
        have g1 := hg 1 f1 rfl
        have g2 := hg 2 f2 rfl
        have g3 := hg 3 f3 rfl
        simp [o0, o1, o2, o3, t0, t1, t2, t3, c3, c28, c29] at g0 g1 g2 g3
        obtain ⟨n0, r0, _, q0⟩ := DataW.trod_int h3 g0
        obtain ⟨n1, r1, _, q1⟩ := DataW.trod_int h3 g1
        obtain ⟨n2, r2, _, q2⟩ := DataW.trod_int h28 g2
        obtain ⟨a3, l3, p3, bs, r3, hB, hL⟩ := bools_of h29 h4 c4 g3
        simp at r0 r1 r2
        subst r0 r1 r2 r3
        have e0 := hcell 0 (by omega)
        have e1 := hcell 1 (by omega)
        have e2 := hcell 2 (by omega)
        have e3 := hcell 3 (by omega)
        rw [add_add] at e0 e1 e2 e3
        exact ⟨⟨n0, n1, n2, a3, l3, p3, bs⟩, ⟨by simpa using e0, by simpa using e1, by simpa using e2, by simpa using e3⟩, wf_i64 q1, hB, hL⟩
    have inh : Inhabited De := ⟨⟨0, 0, 0, none, 0, 0, []⟩⟩
    obtain ⟨Q, hQ⟩ := choose_lt each
    refine ⟨(List.range len).map Q, ⟨by simp, ?_, ?_⟩, by omega, ?_⟩
    · intro y hy
      obtain ⟨i, hi, rfl⟩ := List.mem_map.1 hy
      exact (hQ i (List.mem_range.1 hi)).2.2
    · by_cases h0 : len = 0
      · subst h0; exact .inl rfl
      · right
        have h1 := (hQ 0 (by omega)).1.1
        have hx0 : x.add (0 * 4) = x := by unfold Addr.add; simp
        rw [hx0] at h1
        have hs := spot_none h1
        obtain ⟨b, off, sp⟩ := x
        simp only at hs
        subst hs
        refine ⟨b, off, rfl, World.block_lt_of_cell? w _ h1, fun i hi => ?_⟩
        have hi' : i < len := by simpa using hi
        obtain ⟨⟨e0, e1, e2, e3⟩, _⟩ := hQ i hi'
        rw [at_lit] at e0 e1 e2 e3
        simp only [List.getElem_map, List.getElem_range]
        exact ⟨e0, by rw [Nat.add_assoc]; exact e1, by rw [Nat.add_assoc]; exact e2, by rw [Nat.add_assoc]; exact e3⟩
    · intro y hy
      obtain ⟨i, hi, rfl⟩ := List.mem_map.1 hy
      exact (hQ i (List.mem_range.1 hi)).2.1
end
end Go.Proofs.Ytdnoniolpplgiaa
