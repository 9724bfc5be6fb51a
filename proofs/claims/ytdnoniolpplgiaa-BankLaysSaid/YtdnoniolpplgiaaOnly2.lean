/- The law PmemOnly: what its loop keeps. -/
import Derived.Test.YtdnoniolpplgiaaOnly
import Derived.Test.YtdnoniolpplgiaaDoK
namespace Go.Proofs.Ytdnoniolpplgiaa
open Go.RowKit Go.Maps Go.Sort Go.Shelf

theorem Try.info28 : (Try.prog.info? 28).map (fun i => (i.zero, i.size, i.bytes)) = some (some (.int .u64 0), 1, 8) := by kernel_rfl
theorem row_kept {S : List Nat} {w w' : World} {base e size : Nat} {v : Value} {n : Nat} {xs : List Value} (h : w.ownsRow base e size v n xs) (hk : Kept S w w') (hg : ∀ g, v.ownBlock = some g → g ∉ S) : w'.ownsRow base e size v n xs := by
  refine ⟨h.1, ?_⟩
  rcases h.2 with h2 | ⟨g, cap, cur, rfl, hb, hc, hr⟩
  · exact .inl h2
  · exact .inr ⟨g, cap, cur, rfl, hb, (hk.block g (h.lt g rfl).2 (hg g rfl)).trans hc, hr⟩

/-- What the law has: a device, and a row of what was seen. -/
structure OX (w0 w : World) (t m c y : Nat) (T : List Int) (d : Dv) (v : Value) (L : List Int) (N : Nat) : Prop where
  dev : DevIs w t m c y T d
  lo : ∀ q ∈ [t, m, c, y], w0.heap.size ≤ q
  t64 : ∀ q ∈ T, W64 q
  few : T.length ≤ N ∧ d.events ≤ N ∧ L.length ≤ N + 1
  bel : Below w0.heap.size w0 w
  row : w.ownsRow w0.heap.size 28 1 v L.length (L.map (Value.int .u64))
  apart : ∀ g, v.ownBlock = some g → g ∉ [t, m, c, y]
theorem OX.below {w0 w w' : World} {t m c y : Nat} {T : List Int} {d : Dv} {v : Value} {L : List Int} {N : Nat} (h : OX w0 w t m c y T d v L N) (hb : Below w.heap.size w w') : OX w0 w' t m c y T d v L N :=
  ⟨h.dev.below hb, h.lo, h.t64, h.few, h.bel.trans (hb.mono h.bel.size), row_kept (S := []) h.row (Kept.of_below hb) (fun _ _ => by simp), h.apart⟩
theorem OX.mono {w0 w : World} {t m c y : Nat} {T : List Int} {d : Dv} {v : Value} {L : List Int} {N : Nat} (h : OX w0 w t m c y T d v L N) : OX w0 w t m c y T d v L (N + 1) :=
  ⟨h.dev, h.lo, h.t64, by have := h.few; omega, h.bel, h.row, h.apart⟩
theorem OX.dev' {w0 w w' : World} {t m c y : Nat} {T : List Int} {d : Dv} {v : Value} {L : List Int} {N : Nat} (h : OX w0 w t m c y T d v L N) {S : List Nat} {c' y' : Nat} {T' : List Int} {d' : Dv} (hD : DevIs w' t m c' y' T' d') (hk : Kept S w w') (hS : ∀ q ∈ S, q ∈ [t, m, c, y] ∨ w.heap.size ≤ q) (hc : ∀ q ∈ [t, m, c', y'], q ∈ [t, m, c, y] ∨ w.heap.size ≤ q) (h64 : ∀ q ∈ T', W64 q) (hT : T'.length ≤ N + 1) (he : d'.events ≤ N + 1) : OX w0 w' t m c' y' T' d' v L (N + 1) := by
  have hs := h.bel.size
  refine ⟨hD, fun q hq => ?_, h64, by have := h.few; omega, Kept.below h.bel hk (fun q hq => ?_) hs, row_kept h.row hk (fun g hg hm => ?_), fun g hg hm => ?_⟩
  · rcases hc q hq with h2 | h2
    · exact h.lo q h2
    · omega
  · rcases hS q hq with h2 | h2
    · exact h.lo q h2
    · omega
  · rcases hS g hm with h2 | h2
    · exact h.apart g hg h2
    · have := (h.row.lt g hg).2; omega
  · rcases hc g hm with h2 | h2
    · exact h.apart g hg h2
    · have := (h.row.lt g hg).2; omega
theorem OX.push {w0 w w' : World} {t m c y : Nat} {T : List Int} {d : Dv} {v v' : Value} {L : List Int} {N : Nat} (h : OX w0 w t m c y T d v L N) {x : Int} (hl : L.length ≤ N) (hr : w'.ownsRow w0.heap.size 28 1 v' (L.length + 1) (L.map (Value.int .u64) ++ [.int .u64 x])) (hg : w.grownBy w' v.ownBlock) (hb : v'.ownBlock = v.ownBlock ∨ v'.ownBlock = some w.heap.size) : OX w0 w' t m c y T d v' (L ++ [x]) N := by
  have hdl := h.dev.lt
  have hs := h.bel.size
  have hk : ∀ q, q < w.heap.size → some q ≠ v.ownBlock → w'.heap[q]? = w.heap[q]? := fun q hq hn => hg.block q hq hn
  have hkp : Kept v.ownBlock.toList w w' := ⟨hg.os, hg.tape, hg.output, hg.size, fun q hq hn => hk q hq (fun e => hn (by rw [← e]; simp))⟩
  refine ⟨h.dev.kept hkp (fun q hq hm => ?_), h.lo, h.t64, ⟨h.few.1, h.few.2.1, by simp; omega⟩, Kept.below h.bel hkp (fun q hq => ?_) hs, by rw [List.map_append, List.length_append]; exact hr, fun g hg2 hm => ?_⟩
  · rw [Option.mem_toList] at hm
    exact h.apart q hm hq
  · rw [Option.mem_toList] at hq
    exact (h.row.lt q hq).1
  · rcases hb with e | e
    · rw [e] at hg2; exact h.apart g hg2 hm
    · rw [e] at hg2; cases hg2; have := hdl _ hm; omega
/-- A device beside a new one of the document. -/
theorem OX.fresh {w0 w w2 : World} {t m c y : Nat} {T : List Int} {d : Dv} {v : Value} {L : List Int} {N : Nat} (h : OX w0 w t m c y T d v L N) {n : Int} (hR : RefIs w2 w.heap.size none 0 (Rf.new n)) (hb : Below w.heap.size w w2) : DX w0 w2 t m c y w.heap.size none 0 T d (Rf.new n) N := by
  have hlt := h.dev.lt
  have hs := h.bel.size
  refine ⟨h.dev.below hb, hR, fun i hi hm => ?_, ⟨h.lo, fun i hi => ?_⟩, h.t64, ⟨h.few.1, Nat.zero_le _, h.few.2.1, by show (0 : Int) ≤ _; omega⟩, (fun z hz => by cases hz), h.bel.trans (hb.mono hs)⟩
  · simp [refB] at hm
    have := hlt i hi
    omega
  · simp [refB] at hi
    omega
theorem row_one {w : World} {base : Nat} (x : Int) (hb : base ≤ w.heap.size) : (w.alloc (.cells #[.int .u64 x] 28)).ownsRow base 28 1 (.slice (some ⟨w.heap.size, 0, none⟩) 1 1) 1 [.int .u64 x] :=
  ⟨rfl, .inr ⟨w.heap.size, 1, #[.int .u64 x], rfl, hb, by show (w.heap.push _)[w.heap.size]? = _; simp, Nat.le_refl _, by decide, rfl, rfl⟩⟩
theorem OX.start {w0 w1 : World} {t m c y : Nat} {n : Int} (hs : Below w0.heap.size w0 w1) (hD : DevIs w1 t m c y [] (Dv.new n)) (hlo : ∀ q ∈ [t, m, c, y], w0.heap.size ≤ q) : OX w0 (w1.alloc (.cells #[.int .u64 0] 28)) t m c y [] (Dv.new n) (.slice (some ⟨w1.heap.size, 0, none⟩) 1 1) [0] 0 := by
  have hlt := hD.lt
  have hb : Below w1.heap.size w1 (w1.alloc (.cells #[.int .u64 0] 28)) := (Below.refl _ _).alloc (Nat.le_refl _) _
  refine ⟨hD.below hb, hlo, fun q hq => (by cases hq), ⟨Nat.le_refl _, Int.le_refl _, Nat.le_refl _⟩, hs.trans (hb.mono hs.size), row_one 0 hs.size, fun g hg hm => ?_⟩
  cases hg
  exact Nat.lt_irrefl _ (hlt _ hm)
set_option maxHeartbeats 1600000 in
theorem copy_nil (w : World) : Calls Try.prog 26 #[.pointer none] w fun e w' => e = .returned (.pointer none) ∧ w' = w := by
  have CO := Lib.hid (ok_nil w)
  go_enter Try.func26, Try.ntmps26
  go_wp2_with (go_at_call 46; refine (CO.out).mono ?_; rintro e w2 ⟨rfl, rfl⟩)
  go_ret
  exact ⟨rfl, rfl⟩
end Go.Proofs.Ytdnoniolpplgiaa
