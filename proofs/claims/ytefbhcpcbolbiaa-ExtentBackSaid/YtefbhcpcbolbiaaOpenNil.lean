/- A nil slice that came in has no capacity. -/
import Derived.Test.YtefbhcpcbolbiaaOpen
namespace Go.Proofs.Ytefbhcpcbolbiaa
open Go.RowKit Go.Deep Go.ChangeShapes Go.WideShapes
theorem slice_nil {H : Type} {enc : TypeId × Value → H} {w : World} {base : Nat} {held : Bool} {P : Program} {t e : TypeId} {a : Option Addr} {len cap : Nat} {d : DataW H} {ps : List MemPlace} (ht : P.underlying t = some (.slice e))
    (h : DataW.Trod enc P w base (fun _ => true) held t (.slice a len cap) d ps) : a = none → cap = 0 := by
  obtain ⟨fuel, hf⟩ := h
  intro ha
  rcases open_slice ht hf with ⟨hcs, _⟩ | ⟨x, l, c, m, n, D, Pl, hcs, _⟩
  · simp [Value.cells] at hcs
    exact hcs.2.2
  · simp [Value.cells] at hcs
    rw [ha] at hcs
    exact absurd hcs.1 (by simp)
end Go.Proofs.Ytefbhcpcbolbiaa
