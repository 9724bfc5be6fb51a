/- slices.Clone, of extents; Holes. -/
import Derived.Test.YtefbhcpcbolbiaaCut
import Derived.Lib.SliceRun
namespace Go.Proofs.Ytefbhcpcbolbiaa
open Go.RowKit

theorem exts_cells {w : World} {b off n : Nat} {xs : List E} (h : Exts w (some ⟨b, off, none⟩) n xs) : ∀ j u, (cellsE xs)[j]? = some u → w.cell? ((⟨b, off, none⟩ : Addr).add j) = some u := by
  intro j u hu
  have hj := (List.getElem?_eq_some_iff.1 hu).1
  rw [cellsE_len] at hj
  have hi : j / 3 < xs.length := by omega
  rcases h.2 with h2 | ⟨b2, off2, e, hl, hc⟩
  · subst h2; simp at hi
  · cases e
    obtain ⟨c0, c1, c2⟩ := hc _ hi
    obtain ⟨d0, d1, d2⟩ := cellsE_at xs (j / 3) _ (List.getElem?_eq_getElem hi)
    have hadd : ∀ k, (⟨b, off, none⟩ : Addr).add k = ⟨b, off + k, none⟩ := fun k => by unfold Addr.add; split <;> simp_all
    rw [hadd]
    have h3 : j = j / 3 * 3 ∨ j = j / 3 * 3 + 1 ∨ j = j / 3 * 3 + 2 := by omega
    rcases h3 with h3 | h3 | h3
    · rw [h3] at hu ⊢; rw [d0] at hu; cases hu; exact c0
    · rw [h3] at hu ⊢; rw [d1] at hu; cases hu; rw [← Nat.add_assoc]; exact c1
    · rw [h3] at hu ⊢; rw [d2] at hu; cases hu; rw [← Nat.add_assoc]; exact c2

set_option maxRecDepth 100000 in
set_option maxHeartbeats 4000000 in
theorem clone_any {A : Option Addr} {n : Nat} {xs : List E} {w : World} (cap : Nat) (h : Exts w A n xs) (hn : A = none → cap = 0) (hm : n ≤ 400) : Calls Try.prog 24 #[.slice A n cap] w (RowOf w.heap.size xs w) := by
  have hl := h.1
  obtain ⟨i0, hi, hz0, hz1, hz2⟩ := info_parts Try.info29
  cases A with
  | none =>
    have hxs : xs = [] := by
      rcases h.2 with h2 | ⟨b, off, e, _⟩
      · exact h2
      · cases e
    subst hxs
    have h0 : n = 0 := hl.symm
    have hc := hn rfl
    subst h0 hc
    clear hn hl hi hz0 hz1 hz2
    have hnil : ∀ w' : World, (binOp .eql 23 (.slice none 0 0) (.slice none 0 0)).run Try.prog w' = .ok (.bool true) w' := fun w' => Lib.run_eql_slice_nil w' 23 29 none 0 0 0 0 Try.underlying23
    go_enter Try.func24, Try.ntmps24
    go_wp2
    go_ret
    exact ⟨_, rfl, World.ownsRow_nil _ _ _ _, Below.refl _ _⟩
  | some a =>
    have H := Lib.hid h
    clear h hn
    have hnil : ∀ w' : World, (binOp .eql 23 (.slice (some a) n cap) (.slice none 0 0)).run Try.prog w' = .ok (.bool false) w' := fun w' => Lib.run_eql_slice_nil w' 23 29 (some a) n cap 0 0 Try.underlying23
    go_enter Try.func24, Try.ntmps24
    have hadd : ∀ (b' : Nat) (w' : World), Below w.heap.size w w' → ∀ j u, (cellsE xs)[j]? = some u → w'.cell? (a.add j) = some u := by
      intro b' w' hb j u hu
      rcases H.out.2 with h2 | ⟨b, off, e, hl, hc⟩
      · subst h2; simp [cellsE] at hu
      · cases e; exact exts_cells (H.out.below hb) j u hu
    have hown0 := World.ownsRow_lit (base := w.heap.size) (e := 29) (size := 3) w #[] 0 (Nat.le_refl _) (by unfold maxLen; omega) rfl
    have Hown0 := Lib.hid hown0
    have hb0 : Below w.heap.size w (w.alloc (.cells #[] 29)) := (Below.refl _ _).alloc (Nat.le_refl _) _
    have hcl := cellsE_len xs
    clear hown0
    go_wp2_with (at_builtin; refine wpList_append_own _ rfl _ _ 23 rfl w.heap.size 29 i0 (.agg #[.int .i64 0, .int .i64 0, .int .i64 0]) 3 24 Try.underlying23 hi hz0 hz1 hz2 rfl (by decide) _ 0 [] rfl Hown0.out a n cap (cellsE xs) rfl ?c0 ?c1 ?c2 ?c3 ?c4 ?c5 ?_)
    case c1 => exact hadd 0 _ hb0
    case c2 => intro u hu; obtain ⟨x, _, hx⟩ := List.mem_flatMap.1 hu; rcases List.mem_cons.1 hx with rfl | hx; rfl; rcases List.mem_cons.1 hx with rfl | hx; rfl; rcases List.mem_cons.1 hx with rfl | hx; rfl; cases hx
    case c3 => unfold maxLen; omega
    case c4 => omega
    intro v' w3 hown3 hgrow3 _
    have hb3 := hb0.grown hgrow3 hb0.size (fun k hk => (Hown0.out.lt k hk).1)
    have Hown3 := Lib.hid hown3
    clear hown3
    go_wp2
    go_ret
    exact ⟨_, rfl, by rw [hl]; exact Hown3.out, hb3⟩
end Go.Proofs.Ytefbhcpcbolbiaa
