/- A bank that is made: contracts (package bank). -/
import Derived.Test.YtdnoniolpplgiaaMake2
import Derived.Test.YtdnoniolpplgiaaFirst
namespace Go.Proofs.Ytdnoniolpplgiaa
open Go.RowKit Go.Maps Go.Sort Go.Shelf

/-- What two that are laid one behind the other answer, and leave. -/
def Lay2 (d : Dv) (a : Int) (xs : List Int) (b : Int) (ys : List Int) (r : Int × Dv) : Prop :=
  ∃ r1, LayIs d a xs r1 ∧ ((r1.1 ≠ 0 ∧ r = r1) ∨ (r1.1 = 0 ∧ LayIs r1.2 b ys r))
section
variable {w : World} {t m c y bd bg bk bl s n cap N : Nat} {T : List Int} {d : Dv} {p b i l q k : Int} {A : Option Addr} {xs : List Int}
theorem make_first (h : EX w w t m c y T d N) (hC : CB w [t, m, c, y] bd bg bk bl t p b i l q k A n cap) (hW : Words w A n xs) (hA : xs ≠ [] → ∀ a, A = some a → a.block ∉ [t, m, c, y]) (b0 : 0 ≤ b) (b1 : b ≤ 131072) (hn : n ≤ 5000) (hN : N ≤ 20000)
    (h0 : w.cell? ⟨s, 0, none⟩ = some (.func (.func 89) #[] #[.pointer (some ⟨bd, 0, none⟩), .pointer (some ⟨bg, 0, none⟩), .pointer (some ⟨bk, 0, none⟩), .pointer (some ⟨bl, 0, none⟩)]))
    (h1 : w.cell? ⟨s, 1, none⟩ = some (.func (.func 90) #[] #[.pointer (some ⟨bd, 0, none⟩), .pointer (some ⟨bg, 0, none⟩), .pointer (some ⟨bk, 0, none⟩), .pointer (some ⟨bl, 0, none⟩)]))
    (hl : s < w.heap.size) (hs : s ∉ [t, m, c, y]) :
    Calls Try.prog 69 #[.slice (some ⟨s, 0, none⟩) 2 2] w fun e w' => ∃ T' r, e = .returned (.int .i64 r.1) ∧ Lay2 d (bankAt b k + 2) xs (bankAt b k) [0, (n : Int)] r ∧ EX w w' t m c y T' r.2 (N + 2 * n + 24) := by
  refine (first_make (R1 := fun w1 => ∃ T1 r1, r1.1 = 0 ∧ LayIs d (bankAt b k + 2) xs r1 ∧ EX w w1 t m c y T1 r1.2 (N + 2 * n + 10))
    (R2 := fun w2 => ∃ T' r, r.1 = 0 ∧ Lay2 d (bankAt b k + 2) xs (bankAt b k) [0, (n : Int)] r ∧ EX w w2 t m c y T' r.2 (N + 2 * n + 24))
    (E := fun er w2 => ∃ T' r, r.1 = er ∧ Lay2 d (bankAt b k + 2) xs (bankAt b k) [0, (n : Int)] r ∧ EX w w2 t m c y T' r.2 (N + 2 * n + 24)) h0 ?_ ?_ ?_).mono ?_
  · rintro w1 ⟨T1, r1, _, _, hE⟩
    exact (hE.kept.cell (a := ⟨s, 1, none⟩) hl hs).trans h1
  · refine (make1_any h hC hW hA b0 b1 hn (by omega)).mono ?_
    rintro e w1 ⟨T1, r1, rfl, hL, hE⟩
    exact ⟨r1.1, rfl, fun hz => ⟨T1, r1, hz, hL, hE⟩, fun hz => ⟨T1, r1, rfl, ⟨r1, hL, .inl ⟨hz, rfl⟩⟩, hE.mono (by omega)⟩⟩
  · rintro w1 ⟨T1, r1, hz, hL, hE⟩
    have hE1 : EX w1 w1 t m c y T1 r1.2 (N + 2 * n + 10) := ⟨hE.dev, hE.t64, hE.few, Kept.refl _ _⟩
    refine (make2_any hE1 (hC.kept hE.kept) b0 b1 hn (by omega)).mono ?_
    rintro e w2 ⟨T2, r2, rfl, hL2, hE2⟩
    have hE3 : EX w w2 t m c y T2 r2.2 (N + 2 * n + 24) := ⟨hE2.dev, hE2.t64, by have := hE2.few; omega, hE.kept.trans hE2.kept⟩
    exact ⟨r2.1, rfl, fun hz2 => ⟨T2, r2, hz2, ⟨r1, hL, .inr ⟨hz, hL2⟩⟩, hE3⟩, fun _ => ⟨T2, r2, rfl, ⟨r1, hL, .inr ⟨hz, hL2⟩⟩, hE3⟩⟩
  · rintro e w2 ⟨er, rfl, hz, hn⟩
    by_cases he : er = 0
    · obtain ⟨T', r, hr, hM, hE⟩ := hz he
      exact ⟨T', r, by rw [hr, he], hM, hE⟩
    · obtain ⟨T', r, hr, hM, hE⟩ := hn he
      exact ⟨T', r, by rw [hr], hM, hE⟩

/-- The boxes of making. -/
def wBox (w : World) (t n cap : Nat) (p b i l q k : Int) (A : Option Addr) : World :=
  (((w.alloc (.cells #[.pointer (some ⟨t, 0, none⟩)] 25)).alloc (.cells #[.int .i64 p, .int .i64 b, .int .i64 i, .int .i64 l, .int .i64 q] 58)).alloc (.cells #[.int .i64 k] 3)).alloc (.cells #[.slice A n cap] 53)
theorem wBox_below (w : World) (t n cap : Nat) (p b i l q k : Int) (A : Option Addr) : Below w.heap.size w (wBox w t n cap p b i l q k A) := by
  have h1 : Below w.heap.size w (w.alloc (.cells #[.pointer (some ⟨t, 0, none⟩)] 25)) := (Below.refl _ _).alloc (Nat.le_refl _) _
  have h2 := h1.alloc h1.size (.cells #[.int .i64 p, .int .i64 b, .int .i64 i, .int .i64 l, .int .i64 q] 58)
  have h3 := h2.alloc h2.size (.cells #[.int .i64 k] 3)
  exact h3.alloc h3.size (.cells #[.slice A n cap] 53)
theorem wBox_size (w : World) (t n cap : Nat) (p b i l q k : Int) (A : Option Addr) : (wBox w t n cap p b i l q k A).heap.size = w.heap.size + 4 := by unfold wBox; simp
theorem out_at {w : World} {S : List Nat} (hlt : ∀ i ∈ S, i < w.heap.size) (j : Nat) : w.heap.size + j ∉ S := fun hm => by have := hlt _ hm; omega
theorem cb_new {w : World} (hlt : ∀ i ∈ [t, m, c, y], i < w.heap.size) : CB (wBox w t n cap p b i l q k A) [t, m, c, y] w.heap.size (w.heap.size + 1) (w.heap.size + 2) (w.heap.size + 3) t p b i l q k A n cap := by
  have hz := wBox_size w t n cap p b i l q k A
  refine ⟨?_, ⟨by omega, ?_, ?_, ?_, ?_, ?_⟩, ?_, ?_, ⟨by omega, by omega, by omega⟩, out_at hlt 0, out_at hlt 1, out_at hlt 2, out_at hlt 3⟩
  all_goals unfold wBox
  all_goals go_simp
end
end Go.Proofs.Ytdnoniolpplgiaa
