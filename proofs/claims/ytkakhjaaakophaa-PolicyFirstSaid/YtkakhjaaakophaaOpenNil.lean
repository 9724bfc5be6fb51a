/- A slice of bools that came in, opened: and of what capacity a nil one is. -/
import Derived.Test.YtkakhjaaakophaaOpen
namespace Go.Proofs.Ytkakhjaaakophaa
open Go.RowKit Go.Deep Go.Joins
variable {H : Type} {enc : TypeId × Value → H} {w : World} {base : Nat} {held : Bool}

theorem bools_nil {P : Program} {t : TypeId} {a : Option Addr} {len cap : Nat} {d : DataW H} {ps : List MemPlace} (ht : P.underlying t = some (.slice 4)) (he : P.underlying 4 = some .bool) (hc : P.cellsOf 4 = 1)
    (h : DataW.Trod enc P w base (fun _ => true) held t (.slice a len cap) d ps) : a = none → cap = 0 := by
  obtain ⟨fuel, hf⟩ := h
  rcases open_bools ht he hc hf with ⟨hcs, _⟩ | ⟨x, l, c, B, hcs, _⟩
  · simp [Value.cells] at hcs; exact fun _ => hcs.2.2
  · simp [Value.cells] at hcs
    intro h; rw [hcs.1] at h; cases h
end Go.Proofs.Ytkakhjaaakophaa
