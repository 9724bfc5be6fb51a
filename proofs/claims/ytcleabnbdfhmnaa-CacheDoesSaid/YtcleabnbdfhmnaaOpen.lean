/- How deeds that came in are opened. -/
import Derived.Test.YtcleabnbdfhmnaaDeeds
import Derived.Deep.Slices
import Derived.ChangeSlices
import Derived.OpenShut
import Derived.ProofKit
namespace Go.Proofs.Ytcleabnbdfhmnaa
open Go.RowKit Go.Deep Go.ChangeShapes Go.WideShapes
section
variable {H : Type} {enc : TypeId × Value → H} {w : World} {base : Nat} {held : Bool}

theorem spot_none {x : Addr} {v : Value} (h : w.cell? x = some v) : x.spot = none := by
  unfold World.cell? at h
  split at h
  · split at h
    · cases h
    · rename_i hs; simpa using hs
  · cases h

theorem wf_i64 {n : Int} (h : (Lit.int .i64 n).wf = true) : W64 n := by
  simp [Lit.wf, IntKind.min, IntKind.max, IntKind.signed, IntKind.bits] at h
  unfold W64
  omega

theorem deeds_in {P : Program} {t e : TypeId} {f0 f1 f2 f3 : Field} {a : Option Addr} {len cap : Nat} {d : DataW H} {ps : List MemPlace} (ht : P.underlying t = some (.slice e)) (he : P.underlying e = some (.struct #[f0, f1, f2, f3]))
    (ce : P.cellsOf e = 4) (o0 : f0.offset = 0) (o1 : f1.offset = 1) (o2 : f2.offset = 2) (o3 : f3.offset = 3) (t0 : f0.type = 3) (t1 : f1.type = 3) (t2 : f2.type = 3) (t3 : f3.type = 4) (h3 : P.underlying 3 = some (.int .i64)) (h4 : P.underlying 4 = some .bool) (c3 : P.cellsOf 3 = 1) (c4 : P.cellsOf 4 = 1)
    (h : DataW.Trod enc P w base (fun _ => true) held t (.slice a len cap) d ps) : ∃ xs, Deeds w a len xs ∧ len ≤ maxLen ∧ ∀ x ∈ xs, W64 x.d.who ∧ W64 x.d.ino := by
  obtain ⟨fuel, hf⟩ := h
  rcases open_slice ht hf with ⟨hcs, _⟩ | ⟨x, l, c, m, n, D, Pl, hcs, _, hl, hm, hmm, _, hx⟩
  · simp [Value.cells] at hcs
    obtain ⟨rfl, rfl, rfl⟩ := hcs
    exact ⟨[], ⟨rfl, .inl rfl⟩, by unfold maxLen; omega, fun z hz => by cases hz⟩
  · simp [Value.cells] at hcs
    obtain ⟨rfl, rfl, rfl⟩ := hcs
    simp only [if_true] at hmm
    subst hmm
    have each : ∀ i, i < len → ∃ q : De, w.cell? (x.add (i * 4)) = some (.int .i64 q.k) ∧ w.cell? (x.add (i * 4 + 1)) = some (.int .i64 q.d.who) ∧ w.cell? (x.add (i * 4 + 2)) = some (.int .i64 q.d.ino) ∧ w.cell? (x.add (i * 4 + 3)) = some (.bool q.d.al) ∧ W64 q.d.who ∧ W64 q.d.ino := by
      intro i hi
      obtain ⟨cs', h1, h2⟩ := hx i (by omega)
      rw [ce] at h1
      obtain ⟨_, hlen, hcell⟩ := World.cells?_some h1
      obtain ⟨ys, k, hk, hxy, _, hxl, hg⟩ := DataW.trod_struct he h2
      match ys, hxl, cs', hlen with
      | [y0, y1, y2, y3], _, [v0, v1, v2, v3], _ =>
        have g0 := hg 0 f0 rfl
        have g1 := hg 1 f1 rfl
        have g2 := hg 2 f2 rfl
        have g3 := hg 3 f3 rfl
        simp [o0, o1, o2, o3, t0, t1, t2, t3, c3, c4] at g0 g1 g2 g3
        obtain ⟨n0, r0, _, q0⟩ := DataW.trod_int h3 g0
        obtain ⟨n1, r1, _, q1⟩ := DataW.trod_int h3 g1
        obtain ⟨n2, r2, _, q2⟩ := DataW.trod_int h3 g2
        obtain ⟨n3, r3, _⟩ := DataW.trod_bool h4 g3
        simp at r0 r1 r2 r3
        subst r0 r1 r2 r3
        have e0 := hcell 0 (by omega)
        have e1 := hcell 1 (by omega)
        have e2 := hcell 2 (by omega)
        have e3 := hcell 3 (by omega)
        rw [add_add] at e0 e1 e2 e3
        exact ⟨⟨n0, n1, n2, n3⟩, by simpa using e0, by simpa using e1, by simpa using e2, by simpa using e3, wf_i64 q1, wf_i64 q2⟩
    have inh : Inhabited De := ⟨⟨0, 0, 0, false⟩⟩
    obtain ⟨Q, hQ⟩ := choose_lt each
    refine ⟨(List.range len).map Q, ⟨by simp, ?_⟩, by omega, ?_⟩
    · by_cases h0 : len = 0
      · subst h0; exact .inl rfl
      · right
        have h1 := (hQ 0 (by omega)).1
        have hx0 : x.add (0 * 4) = x := by unfold Addr.add; simp
        rw [hx0] at h1
        have hs := spot_none h1
        obtain ⟨b, off, sp⟩ := x
        simp only at hs
        subst hs
        refine ⟨b, off, rfl, World.block_lt_of_cell? w _ h1, fun i hi => ?_⟩
        have hi' : i < len := by simpa using hi
        obtain ⟨e0, e1, e2, e3, _⟩ := hQ i hi'
        have hadd : ∀ k, (⟨b, off, none⟩ : Addr).add k = ⟨b, off + k, none⟩ := fun k => by unfold Addr.add; split <;> simp_all
        rw [hadd] at e0 e1 e2 e3
        simp only [List.getElem_map, List.getElem_range]
        exact ⟨e0, by rw [Nat.add_assoc]; exact e1, by rw [Nat.add_assoc]; exact e2, by rw [Nat.add_assoc]; exact e3⟩
    · intro y hy
      obtain ⟨i, hi, rfl⟩ := List.mem_map.1 hy
      exact (hQ i (List.mem_range.1 hi)).2.2.2.2
end
end Go.Proofs.Ytcleabnbdfhmnaa
