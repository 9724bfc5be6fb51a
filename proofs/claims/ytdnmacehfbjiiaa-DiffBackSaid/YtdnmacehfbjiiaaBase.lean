/- Items, their bytes, and maps of items by their paths, read plainly. -/
import Derived.Test.YtdnmacehfbjiiaaChecked
import Derived.Test.YtdnmacehfbjiiaaRows
import Derived.Test.YtdnmacehfbjiiaaLays
import Derived.WalkKit
import Derived.ProofKit
import Derived.Below
import Derived.Lib.Hide
import Derived.Deep.DeepCutAuto
import Derived.Laws.OwnMore
import Derived.Deep.RegionHeld3
import Derived.Maps.OwnSet
import Derived.Maps.OwnOps
import Derived.Maps.Range
import Derived.Maps.RangeWalk
import Derived.Maps.AppendAt
import Derived.Laws.BytesArg
import Derived.Laws.StructEq
import Derived.StringKeys
import Derived.Sort.KeysCollected
import Derived.Sort.OwnSorted
import Derived.BigQuiet
namespace Go.Proofs.Ytdnmacehfbjiiaa
open Go.RowKit Go.Maps Go.Sort Go.Shelf Go.ChangeShapes Go.WideShapes

/-- A string's bytes. -/
abbrev Str := List UInt8
theorem keyed9 : Keyed Try.prog 9 := string_keyed Try.underlying9
theorem key9 {k : Str} (h : k.length ≤ maxLen) : keyOf Try.prog 9 (encStr k) = some (.string k) := WideMaps.keyOf_string_mk (s := ⟨⟨k⟩⟩) Try.underlying9 h
theorem Below.grownBy {w w' : World} (h : Below w.heap.size w w') : w.grownBy w' none := ⟨h.os, h.tape, h.output, h.size, fun k hk _ => h.block k hk⟩

/-- An item, as it lies in memory. -/
structure It where
  p : Str
  ino : Int
  kind : Int
  size : Int
  a : Option Addr
  n : Nat
  c : Nat
  bs : List UInt8
def It.zero : It := ⟨[], 0, 0, 0, none, 0, 0, []⟩
def itC (x : It) : Array Value := #[encStr x.p, .int .i64 x.ino, .int .i64 x.kind, .int .i64 x.size, .slice x.a x.n x.c]
def itV (x : It) : Value := .agg (itC x)

/-- Bytes in memory. -/
def Bytes (w : World) (A : Option Addr) (n : Nat) (bs : List UInt8) : Prop :=
  bs.length = n ∧ (bs = [] ∨ ∃ b off, A = some ⟨b, off, none⟩ ∧ b < w.heap.size ∧ ∀ i, (h : i < bs.length) → w.cell? ⟨b, off + i, none⟩ = some (.int .u8 (bs[i].toNat : Int)))
theorem Bytes.below {w w' : World} {A : Option Addr} {n : Nat} {bs : List UInt8} (h : Bytes w A n bs) (hb : Below w.heap.size w w') : Bytes w' A n bs := by
  refine ⟨h.1, ?_⟩
  rcases h.2 with h | ⟨b, off, rfl, hl, hc⟩
  · exact .inl h
  · exact .inr ⟨b, off, rfl, Nat.lt_of_lt_of_le hl hb.size, fun i hi => (hb.cell hl).trans (hc i hi)⟩
theorem Bytes.at {w : World} {A : Option Addr} {n : Nat} {bs : List UInt8} (h : Bytes w A n bs) {i : Nat} (hi : i < n) : ∃ b off, A = some ⟨b, off, none⟩ ∧ b < w.heap.size ∧ ∃ x, bs[i]? = some x ∧ w.cell? ⟨b, off + i, none⟩ = some (.int .u8 (x.toNat : Int)) := by
  have hx : i < bs.length := by rw [h.1]; exact hi
  rcases h.2 with h2 | ⟨b, off, rfl, hl, hc⟩
  · subst h2; simp at hx
  · exact ⟨b, off, rfl, hl, bs[i], List.getElem?_eq_getElem hx, hc i hx⟩

/-- An item is well. -/
structure Good (w : World) (x : It) : Prop where
  bytes : Bytes w x.a x.n x.bs
  path : x.p.length ≤ maxLen
  data : x.n ≤ maxLen
theorem Good.below {w w' : World} {x : It} (h : Good w x) (hb : Below w.heap.size w w') : Good w' x := ⟨h.bytes.below hb, h.path, h.data⟩
theorem good_zero (w : World) : Good w It.zero := ⟨⟨rfl, .inl rfl⟩, by simp [It.zero], by simp [It.zero]⟩

/-- Items in memory. -/
def Items (w : World) (A : Option Addr) (n : Nat) (xs : List It) : Prop :=
  xs.length = n ∧ (∀ x ∈ xs, Good w x) ∧ (xs = [] ∨ ∃ b off, A = some ⟨b, off, none⟩ ∧ b < w.heap.size ∧ ∀ i, (h : i < xs.length) →
    w.cell? ⟨b, off + i * 5, none⟩ = some (encStr xs[i].p) ∧ w.cell? ⟨b, off + i * 5 + 1, none⟩ = some (.int .i64 xs[i].ino) ∧ w.cell? ⟨b, off + i * 5 + 2, none⟩ = some (.int .i64 xs[i].kind) ∧ w.cell? ⟨b, off + i * 5 + 3, none⟩ = some (.int .i64 xs[i].size) ∧ w.cell? ⟨b, off + i * 5 + 4, none⟩ = some (.slice xs[i].a xs[i].n xs[i].c))
theorem Items.below {w w' : World} {A : Option Addr} {n : Nat} {xs : List It} (h : Items w A n xs) (hb : Below w.heap.size w w') : Items w' A n xs := by
  refine ⟨h.1, fun x hx => (h.2.1 x hx).below hb, ?_⟩
  rcases h.2.2 with h2 | ⟨b, off, rfl, hl, hc⟩
  · exact .inl h2
  · exact .inr ⟨b, off, rfl, Nat.lt_of_lt_of_le hl hb.size, fun i hi => ⟨(hb.cell hl).trans (hc i hi).1, (hb.cell hl).trans (hc i hi).2.1, (hb.cell hl).trans (hc i hi).2.2.1, (hb.cell hl).trans (hc i hi).2.2.2.1, (hb.cell hl).trans (hc i hi).2.2.2.2⟩⟩
theorem Items.at {w : World} {A : Option Addr} {n : Nat} {xs : List It} (h : Items w A n xs) {i : Nat} (hi : i < n) : ∃ b off, A = some ⟨b, off, none⟩ ∧ b < w.heap.size ∧ ∃ x : It, xs[i]? = some x ∧ Good w x ∧
    w.cell? ⟨b, off + i * 5, none⟩ = some (encStr x.p) ∧ w.cell? ⟨b, off + i * 5 + 1, none⟩ = some (.int .i64 x.ino) ∧ w.cell? ⟨b, off + i * 5 + 2, none⟩ = some (.int .i64 x.kind) ∧ w.cell? ⟨b, off + i * 5 + 3, none⟩ = some (.int .i64 x.size) ∧ w.cell? ⟨b, off + i * 5 + 4, none⟩ = some (.slice x.a x.n x.c) := by
  have hx : i < xs.length := by rw [h.1]; exact hi
  rcases h.2.2 with h2 | ⟨b, off, rfl, hl, hc⟩
  · subst h2; simp at hx
  · exact ⟨b, off, rfl, hl, xs[i], List.getElem?_eq_getElem hx, h.2.1 _ (List.getElem_mem hx), hc i hx⟩

/-- How an item stands in a map: by its place in a list of values. -/
noncomputable def isV (v u : Value) : Bool := @decide (u = v) (Classical.propDecidable _)
theorem isV_iff {v u : Value} : isV v u = true ↔ u = v := by unfold isV; simp
noncomputable def tabR (L : List Value) (v : Value) : Option (DataW Unit × List MemPlace) :=
  (L.findIdx? (isV v)).map (fun i : Nat => (.lit (.int .i64 (i : Int)), []))
theorem tabR_of {L : List Value} {v : Value} (h : v ∈ L) : ∃ i : Nat, tabR L v = some (.lit (.int .i64 (i : Int)), []) ∧ L[i]? = some v := by
  cases e : L.findIdx? (isV v) with
  | none =>
    rw [List.findIdx?_eq_none_iff] at e
    have h1 := e v h
    have h2 : isV v v = true := isV_iff.2 rfl
    rw [h2] at h1
    cases h1
  | some i =>
    refine ⟨i, by unfold tabR; rw [e]; rfl, ?_⟩
    rw [List.findIdx?_eq_some_iff_getElem] at e
    obtain ⟨hi, h1, _⟩ := e
    rw [List.getElem?_eq_getElem hi, isV_iff.1 h1]
theorem tabR_inv {L : List Value} {v : Value} {i : Nat} {ps : List MemPlace} (h : tabR L v = some (.lit (.int .i64 (i : Int)), ps)) : L[i]? = some v := by
  unfold tabR at h
  rw [Option.map_eq_some_iff] at h
  obtain ⟨j, hj, e⟩ := h
  simp only [Prod.mk.injEq, DataW.lit.injEq, Lit.int.injEq, true_and] at e
  have : j = i := by omega
  subst this
  rw [List.findIdx?_eq_some_iff_getElem] at hj
  obtain ⟨hi, h1, _⟩ := hj
  rw [List.getElem?_eq_getElem hi, isV_iff.1 h1]

/-- The map at b reads as this function. -/
def MapI (w : World) (L : List Value) (b n : Nat) (f : Str → Option It) : Prop :=
  ∃ D, w.ownsMap Try.prog 9 (tabR L) b n D ∧ (∀ k, Maps.has D (.string k) = (f k).isSome) ∧ ∀ k x, f k = some x → itV x ∈ L ∧ ∀ z, some (D.atKey (.string k) z, []) = tabR L (itV x)
theorem MapI.lt {w : World} {L : List Value} {b n : Nat} {f : Str → Option It} (h : MapI w L b n f) : b < w.heap.size := by
  obtain ⟨D, hown, _⟩ := h; exact hown.lt
theorem MapI.kept {w w' : World} {L : List Value} {b n : Nat} {f : Str → Option It} {row : Option Nat} (h : MapI w L b n f) (hg : w.grownBy w' row) (hne : some b ≠ row) : MapI w' L b n f := by
  obtain ⟨D, hown, h1⟩ := h; exact ⟨D, hown.kept hg hne, h1⟩
theorem MapI.below {w w' : World} {L : List Value} {b n : Nat} {f : Str → Option It} (h : MapI w L b n f) (hb : Below w.heap.size w w') : MapI w' L b n f := h.kept (Below.grownBy hb) (by simp)
theorem zeroI (w : World) : (zeroValue 29).run Try.prog w = .ok (itV It.zero) w := by kernel_rfl
theorem MapI.look {w : World} {L : List Value} {b n : Nat} {f : Str → Option It} (h : MapI w L b n f) (hz : itV It.zero ∈ L) {k : Str} (hk : k.length ≤ maxLen) :
    (Instr.lookup 45 (.map (some b)) (encStr k) true).run Try.prog w = .ok (.tuple #[itV ((f k).getD It.zero), .bool (f k).isSome]) w := by
  obtain ⟨D, hown, h1, h2⟩ := h
  obtain ⟨i0, hi0, hl0⟩ := tabR_of hz
  obtain ⟨v', ps', hrun', hv'⟩ := hown.look_ok keyed9 Try.underlying45 (zeroI w) hi0 (key9 hk)
  rw [h1] at hrun'
  cases hf : f k with
  | none =>
    rw [Maps.atKey_of_not_has (by rw [h1, hf]; rfl)] at hv'
    have := tabR_inv hv'
    rw [hl0] at this
    cases this
    rw [hf] at hrun'
    exact hrun'
  | some x =>
    obtain ⟨hx, hat⟩ := h2 k x hf
    obtain ⟨i, hi, hl⟩ := tabR_of hx
    have e := hat (.lit (.int .i64 (i0 : Int)))
    rw [hi] at e
    injection e with e
    injection e with e1 _
    rw [e1] at hv'
    have := tabR_inv hv'
    rw [hl] at this
    cases this
    rw [hf] at hrun'
    exact hrun'
theorem MapI.mono {w : World} {L : List Value} {b n n' : Nat} {f : Str → Option It} (h : MapI w L b n f) (hn : n ≤ n') : MapI w L b n' f := by
  obtain ⟨D, hown, h1⟩ := h; exact ⟨D, hown.mono hn, h1⟩
theorem take_snoc' {α : Type} {l : List α} {j : Nat} {x : α} (h : l[j]? = some x) : l.take (j + 1) = l.take j ++ [x] := by
  rw [List.take_add_one, h]; rfl
def setI (f : Str → Option It) (a : Str) (v : It) : Str → Option It := fun k => if k = a then some v else f k
theorem run_putI {w : World} {L : List Value} {b n : Nat} {f : Str → Option It} (h : MapI w L b n f) (hn : n < maxLen) {k : Str} (hk : k.length ≤ maxLen) {v : It} (hv : itV v ∈ L) :
    ∃ w', (Instr.mapUpdate 45 (.map (some b)) (encStr k) (itV v)).run Try.prog w = .ok () w' ∧ MapI w' L b (n + 1) (setI f k v) ∧ w.mapTurned w' b := by
  obtain ⟨D, hown, h1, h2⟩ := h
  obtain ⟨i, hi, hl⟩ := tabR_of hv
  have hkl : WideAt.IsKeyLit (.string k) := trivial
  obtain ⟨w', hrun, r1, r2⟩ := hown.store keyed9 Try.underlying45 hn (key9 hk) hi
  refine ⟨w', hrun, ⟨_, r1, fun j => ?_, fun j x hx => ?_⟩, r2⟩
  · unfold setI
    by_cases e : j = k
    · subst e; rw [Maps.has_put_same hown.isMap hkl]; simp
    · rw [Maps.has_put_other (fun e2 => e (by simpa using e2)), h1]; simp [e]
  · unfold setI at hx
    by_cases e : j = k
    · subst e
      rw [if_pos rfl] at hx
      cases hx
      exact ⟨hv, fun z => by rw [Maps.atKey_put_same hown.isMap hkl, hi]⟩
    · rw [if_neg e] at hx
      refine ⟨(h2 j x hx).1, fun z => ?_⟩
      rw [Maps.atKey_put_other (fun e2 => e (by simpa using e2))]
      exact (h2 j x hx).2 z
theorem MapI.made (w : World) (L : List Value) : MapI (w.alloc (.map #[] 0)) L w.heap.size 0 (fun _ => none) :=
  ⟨.map [], World.ownsMap_made w _ _ _, fun _ => rfl, fun _ _ h => by cases h⟩
end Go.Proofs.Ytdnmacehfbjiiaa
