/- How slices of bools, ints and bytes that came in are opened. -/
import Derived.Test.YtcleabnbdfhmnaaOpen
import Derived.Test.YtcleabnbdfhmnaaMost
import Derived.Deep.Grids
import Derived.Lib.SmallJoins
namespace Go.Proofs.Ytcleabnbdfhmnaa
open Go.RowKit Go.Deep Go.ChangeShapes Go.WideShapes Go.Joins
section
variable {H : Type} {enc : TypeId × Value → H} {w : World} {base : Nat} {held : Bool}
theorem wf_u8 {n : Int} (h : (Lit.int .u8 n).wf = true) : 0 ≤ n ∧ n < 256 := by
  simp [Lit.wf, IntKind.min, IntKind.max, IntKind.signed, IntKind.bits] at h
  omega

theorem bools_in {P : Program} {t : TypeId} {a : Option Addr} {len cap : Nat} {d : DataW H} {ps : List MemPlace} (ht : P.underlying t = some (.slice 4)) (he : P.underlying 4 = some .bool) (hc : P.cellsOf 4 = 1)
    (h : DataW.Trod enc P w base (fun _ => true) held t (.slice a len cap) d ps) : ∃ bs, Bools w a len bs ∧ len ≤ maxLen := by
  obtain ⟨fuel, hf⟩ := h
  rcases open_bools ht he hc hf with ⟨hcs, _⟩ | ⟨x, l, c, B, hcs, _, hl, hm, _, hcell⟩
  · simp [Value.cells] at hcs
    obtain ⟨rfl, rfl, rfl⟩ := hcs
    exact ⟨[], ⟨rfl, .inl rfl⟩, by unfold maxLen; omega⟩
  · simp [Value.cells] at hcs
    obtain ⟨rfl, rfl, rfl⟩ := hcs
    refine ⟨(List.range len).map B, ⟨by simp, ?_⟩, by omega⟩
    by_cases h0 : len = 0
    · subst h0; exact .inl rfl
    · right
      have h1 := hcell 0 (by omega)
      have hx : x.add 0 = x := by unfold Addr.add; simp
      rw [hx] at h1
      have hs : x.spot = none := by
        unfold World.cell? at h1
        split at h1
        · split at h1
          · cases h1
          · rename_i hs; simpa using hs
        · cases h1
      obtain ⟨b, off, sp⟩ := x
      simp only at hs
      subst hs
      refine ⟨b, off, rfl, World.block_lt_of_cell? w _ h1, fun i hi => ?_⟩
      have hi' : i < len := by simpa using hi
      have := hcell i (by omega)
      rw [show (⟨b, off, none⟩ : Addr).add i = ⟨b, off + i, none⟩ from by unfold Addr.add; split <;> simp_all] at this
      rw [this]; simp

theorem ints_in {P : Program} {t : TypeId} {a : Option Addr} {len cap : Nat} {d : DataW H} {ps : List MemPlace} (ht : P.underlying t = some (.slice 3)) (he : P.underlying 3 = some (.int .i64)) (hc : P.cellsOf 3 = 1)
    (h : DataW.Trod enc P w base (fun _ => true) held t (.slice a len cap) d ps) : ∃ zs, Ints w a len zs ∧ len ≤ maxLen ∧ ∀ z ∈ zs, W64 z := by
  obtain ⟨fuel, hf⟩ := h
  rcases open_ints ht he hc hf with ⟨hcs, _⟩ | ⟨x, l, c, zs, hcs, _, hl, hm, hz, _, hcell, hwf⟩
  · simp [Value.cells] at hcs
    obtain ⟨rfl, rfl, rfl⟩ := hcs
    exact ⟨[], ⟨rfl, .inl rfl⟩, by unfold maxLen; omega, fun z hz => by cases hz⟩
  · simp [Value.cells] at hcs
    obtain ⟨rfl, rfl, rfl⟩ := hcs
    simp only [if_true] at hz
    refine ⟨zs.take len, ⟨by rw [List.length_take]; omega, ?_⟩, by omega, fun z h => wf_i64 (hwf z (List.mem_of_mem_take h))⟩
    by_cases h0 : len = 0
    · subst h0; exact .inl rfl
    · right
      have h1 := hcell 0 (by omega)
      have hx : x.add 0 = x := by unfold Addr.add; simp
      rw [hx] at h1
      have hs := spot_none h1
      obtain ⟨b, off, sp⟩ := x
      simp only at hs
      subst hs
      refine ⟨b, off, rfl, World.block_lt_of_cell? w _ h1, fun i hi => ?_⟩
      rw [List.length_take] at hi
      have := hcell i (by omega)
      rw [show (⟨b, off, none⟩ : Addr).add i = ⟨b, off + i, none⟩ from by unfold Addr.add; split <;> simp_all] at this
      rw [this, List.getElem_take, List.getD_eq_getElem?_getD, List.getElem?_eq_getElem (by omega)]; rfl

theorem bytes_in {P : Program} {t : TypeId} {a : Option Addr} {len cap : Nat} {d : DataW H} {ps : List MemPlace} (ht : P.underlying t = some (.slice 5)) (he : P.underlying 5 = some (.int .u8)) (hc : P.cellsOf 5 = 1)
    (h : DataW.Trod enc P w base (fun _ => true) held t (.slice a len cap) d ps) : ∃ zs, BytesAt w a len zs ∧ len ≤ maxLen ∧ ∀ z ∈ zs, 0 ≤ z ∧ z < 256 := by
  obtain ⟨fuel, hf⟩ := h
  rcases open_ints ht he hc hf with ⟨hcs, _⟩ | ⟨x, l, c, zs, hcs, _, hl, hm, hz, _, hcell, hwf⟩
  · simp [Value.cells] at hcs
    obtain ⟨rfl, rfl, rfl⟩ := hcs
    exact ⟨[], ⟨rfl, .inl rfl⟩, by unfold maxLen; omega, fun z hz => by cases hz⟩
  · simp [Value.cells] at hcs
    obtain ⟨rfl, rfl, rfl⟩ := hcs
    simp only [if_true] at hz
    refine ⟨zs.take len, ⟨by rw [List.length_take]; omega, ?_⟩, by omega, fun z h => wf_u8 (hwf z (List.mem_of_mem_take h))⟩
    by_cases h0 : len = 0
    · subst h0; exact .inl rfl
    · right
      have h1 := hcell 0 (by omega)
      have hx : x.add 0 = x := by unfold Addr.add; simp
      rw [hx] at h1
      have hs := spot_none h1
      obtain ⟨b, off, sp⟩ := x
      simp only at hs
      subst hs
      refine ⟨b, off, rfl, World.block_lt_of_cell? w _ h1, fun i hi => ?_⟩
      rw [List.length_take] at hi
      have := hcell i (by omega)
      rw [show (⟨b, off, none⟩ : Addr).add i = ⟨b, off + i, none⟩ from by unfold Addr.add; split <;> simp_all] at this
      rw [this, List.getElem_take, List.getD_eq_getElem?_getD, List.getElem?_eq_getElem (by omega)]; rfl

end
end Go.Proofs.Ytcleabnbdfhmnaa
