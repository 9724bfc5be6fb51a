/- Bytes, items and changes that come in. -/
import Derived.Lib.SmallJoins
import Derived.ChangeSlices
import Derived.OpenShut
import Derived.ProofKit
import Derived.Test.YtdnmacehfbjiiaaBase
namespace Go.Proofs.Ytdnmacehfbjiiaa
open Go.RowKit Go.Deep Go.ChangeShapes Go.WideShapes Go.Joins
section
variable {H : Type} {enc : TypeId × Value → H} {w : World} {base : Nat} {held : Bool}

theorem spot_none {x : Addr} {v : Value} (h : w.cell? x = some v) : x.spot = none := by
  unfold World.cell? at h
  split at h
  · split at h
    · cases h
    · rename_i hs; simpa using hs
  · cases h
theorem wf_u8 {n : Int} (h : (Lit.int .u8 n).wf = true) : 0 ≤ n ∧ n < 256 := by
  simp [Lit.wf, IntKind.min, IntKind.max, IntKind.signed, IntKind.bits] at h
  omega
theorem at_lit (b off k : Nat) : (⟨b, off, none⟩ : Addr).add k = ⟨b, off + k, none⟩ := by unfold Addr.add; split <;> simp_all
theorem bytes_of {P : Program} {t : TypeId} {v : Value} {x : DataW H × List MemPlace} {fuel : Nat} (ht : P.underlying t = some (.slice 5)) (he : P.underlying 5 = some (.int .u8)) (hc : P.cellsOf 5 = 1)
    (h : DataW.trod enc P w base (fun _ => true) held fuel t [v] = some x) : ∃ a len cap bs, v = .slice a len cap ∧ Bytes w a len bs ∧ len ≤ maxLen := by
  rcases open_slice1 ht hc h with ⟨hcs, _⟩ | ⟨x, l, c, m, n, V, D, Pl, hcs, _, hl, hm, hmm, _, hx⟩
  · simp at hcs
    subst hcs
    exact ⟨none, 0, 0, [], rfl, ⟨rfl, .inl rfl⟩, by unfold maxLen; omega⟩
  · simp at hcs
    subst hcs
    simp only [if_true] at hmm
    subst hmm
    have each : ∀ i, i < l → ∃ z : UInt8, w.cell? (x.add i) = some (.int .u8 (z.toNat : Int)) := by
      intro i hi
      obtain ⟨h1, h2⟩ := hx i (by omega)
      obtain ⟨z, r, _, q⟩ := DataW.trod_int he h2
      obtain ⟨q0, q1⟩ := wf_u8 q
      simp at r
      refine ⟨UInt8.ofNat z.toNat, ?_⟩
      rw [h1, r]
      congr 2
      rw [UInt8.toNat_ofNat']
      omega
    obtain ⟨Z, hZ⟩ := choose_lt each
    refine ⟨some x, l, _, (List.range l).map Z, rfl, ⟨by simp, ?_⟩, by omega⟩
    by_cases h0 : l = 0
    · subst h0; exact .inl rfl
    · right
      have h1 := hZ 0 (by omega)
      have hx0 : x.add 0 = x := by unfold Addr.add; simp
      rw [hx0] at h1
      have hs := spot_none h1
      have hbl := World.block_lt_of_cell? w _ h1
      obtain ⟨b, off, sp⟩ := x
      simp only at hs
      subst hs
      refine ⟨b, off, rfl, hbl, fun i hi => ?_⟩
      have hi' : i < l := by simpa using hi
      have := hZ i hi'
      rw [at_lit] at this
      rw [this]; simp
theorem bytes_in {P : Program} {t : TypeId} {a : Option Addr} {len cap : Nat} {d : DataW H} {ps : List MemPlace} (ht : P.underlying t = some (.slice 5)) (he : P.underlying 5 = some (.int .u8)) (hc : P.cellsOf 5 = 1)
    (h : DataW.Trod enc P w base (fun _ => true) held t (.slice a len cap) d ps) : ∃ bs, Bytes w a len bs ∧ len ≤ maxLen := by
  obtain ⟨fuel, hf⟩ := h
  obtain ⟨a', len', cap', bs, e, h1, h2⟩ := bytes_of ht he hc (show DataW.trod enc P w base (fun _ => true) held fuel t [.slice a len cap] = some _ from hf)
  cases e
  exact ⟨bs, h1, h2⟩
theorem add_add' (a : Addr) (i j : Nat) (h : a.spot = none) : (a.add i).add j = a.add (i + j) := by
  obtain ⟨b, off, sp⟩ := a
  simp only at h
  subst h
  rw [at_lit, at_lit, at_lit, Nat.add_assoc]
theorem items_in {P : Program} {t e : TypeId} {f0 f1 f2 f3 f4 : Field} {a : Option Addr} {len cap : Nat} {d : DataW H} {ps : List MemPlace} (ht : P.underlying t = some (.slice e)) (he : P.underlying e = some (.struct #[f0, f1, f2, f3, f4]))
    (ce : P.cellsOf e = 5) (o0 : f0.offset = 0) (o1 : f1.offset = 1) (o2 : f2.offset = 2) (o3 : f3.offset = 3) (o4 : f4.offset = 4) (t0 : f0.type = 9) (t1 : f1.type = 3) (t2 : f2.type = 3) (t3 : f3.type = 3) (t4 : f4.type = 27) (h9 : P.underlying 9 = some .string) (h3 : P.underlying 3 = some (.int .i64)) (h27 : P.underlying 27 = some (.slice 5)) (h5 : P.underlying 5 = some (.int .u8)) (c9 : P.cellsOf 9 = 1) (c3 : P.cellsOf 3 = 1) (c27 : P.cellsOf 27 = 1) (c5 : P.cellsOf 5 = 1)
    (h : DataW.Trod enc P w base (fun _ => true) held t (.slice a len cap) d ps) : ∃ xs, Items w a len xs ∧ len ≤ maxLen := by
  obtain ⟨fuel, hf⟩ := h
  rcases open_slice ht hf with ⟨hcs, _⟩ | ⟨x, l, c, m, n, D, Pl, hcs, _, hl, hm, hmm, _, hx⟩
  · simp [Value.cells] at hcs
    obtain ⟨rfl, rfl, rfl⟩ := hcs
    exact ⟨[], ⟨rfl, (fun z hz => by cases hz), .inl rfl⟩, by unfold maxLen; omega⟩
  · simp [Value.cells] at hcs
    obtain ⟨rfl, rfl, rfl⟩ := hcs
    simp only [if_true] at hmm
    subst hmm
    have each : ∀ i, i < len → ∃ q : It, (w.cell? (x.add (i * 5)) = some (Go.Proofs.encStr q.p) ∧ w.cell? (x.add (i * 5 + 1)) = some (.int .i64 q.ino) ∧ w.cell? (x.add (i * 5 + 2)) = some (.int .i64 q.kind) ∧ w.cell? (x.add (i * 5 + 3)) = some (.int .i64 q.size) ∧ w.cell? (x.add (i * 5 + 4)) = some (.slice q.a q.n q.c)) ∧ Good w q := by
      intro i hi
      obtain ⟨cs', h1, h2⟩ := hx i (by omega)
      rw [ce] at h1
      obtain ⟨_, hlen, hcell⟩ := World.cells?_some h1
      obtain ⟨ys, k, hk, hxy, _, hxl, hg⟩ := DataW.trod_struct he h2
      match ys, hxl, cs', hlen with
      | [y0, y1, y2, y3, y4], _, [v0, v1, v2, v3, v4], _ =>
        have g0 := hg 0 f0 rfl
        have g1 := hg 1 f1 rfl
        have g2 := hg 2 f2 rfl
        have g3 := hg 3 f3 rfl
        have g4 := hg 4 f4 rfl
        simp [o0, o1, o2, o3, o4, t0, t1, t2, t3, t4, c9, c3, c27] at g0 g1 g2 g3 g4
        obtain ⟨n0, r0, _, q0⟩ := DataW.trod_string h9 g0
        obtain ⟨n1, r1, _, _⟩ := DataW.trod_int h3 g1
        obtain ⟨n2, r2, _, _⟩ := DataW.trod_int h3 g2
        obtain ⟨n3, r3, _, _⟩ := DataW.trod_int h3 g3
        obtain ⟨a4, l4, p4, bs, r4, hB, hL⟩ := bytes_of h27 h5 c5 g4
        simp at r0 r1 r2 r3
        subst r0 r1 r2 r3 r4
        have e0 := hcell 0 (by omega)
        have e1 := hcell 1 (by omega)
        have e2 := hcell 2 (by omega)
        have e3 := hcell 3 (by omega)
        have e4 := hcell 4 (by omega)
        rw [add_add] at e0 e1 e2 e3 e4
        exact ⟨⟨n0.data.toList, n1, n2, n3, a4, l4, p4, bs⟩, ⟨by simpa [Go.Proofs.encStr] using e0, by simpa using e1, by simpa using e2, by simpa using e3, by simpa using e4⟩, hB, by simpa using q0, hL⟩
    have inh : Inhabited It := ⟨It.zero⟩
    obtain ⟨Q, hQ⟩ := choose_lt each
    refine ⟨(List.range len).map Q, ⟨by simp, ?_, ?_⟩, by omega⟩
    · intro y hy
      obtain ⟨i, hi, rfl⟩ := List.mem_map.1 hy
      exact (hQ i (List.mem_range.1 hi)).2
    · by_cases h0 : len = 0
      · subst h0; exact .inl rfl
      · right
        have h1 := (hQ 0 (by omega)).1.1
        have hx0 : x.add (0 * 5) = x := by unfold Addr.add; simp
        rw [hx0] at h1
        have hs := spot_none h1
        have hbl := World.block_lt_of_cell? w _ h1
        obtain ⟨b, off, sp⟩ := x
        simp only at hs
        subst hs
        refine ⟨b, off, rfl, hbl, fun i hi => ?_⟩
        have hi' : i < len := by simpa using hi
        obtain ⟨⟨e0, e1, e2, e3, e4⟩, _⟩ := hQ i hi'
        rw [at_lit] at e0 e1 e2 e3 e4
        simp only [List.getElem_map, List.getElem_range]
        exact ⟨e0, by rw [Nat.add_assoc]; exact e1, by rw [Nat.add_assoc]; exact e2, by rw [Nat.add_assoc]; exact e3, by rw [Nat.add_assoc]; exact e4⟩
end
end Go.Proofs.Ytdnmacehfbjiiaa
