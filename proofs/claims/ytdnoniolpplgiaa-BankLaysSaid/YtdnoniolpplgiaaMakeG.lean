/- A bank that is made: the function's contract (package bank). -/
import Derived.Test.YtdnoniolpplgiaaMakeF
namespace Go.Proofs.Ytdnoniolpplgiaa
open Go.RowKit Go.Maps Go.Sort Go.Shelf
section
variable {w : World} {t m c y n cap N : Nat} {T : List Int} {d : Dv} {p b i l q k : Int} {A : Option Addr} {xs : List Int}
set_option maxRecDepth 100000 in
set_option maxHeartbeats 8000000 in
theorem make_no (hi : i < n) : Calls Try.prog 67 #[.pointer (some ⟨t, 0, none⟩), gv p b i l q, .int .i64 k, .slice A n cap] w fun e w' => e = .returned (.int .i64 28) ∧ Below w.heap.size w w' := by
  have HB := Lib.hid (wBox_below w t n cap p b i l q k A)
  unfold wBox at HB
  unfold gv
  go_enter Try.func67, Try.ntmps67
  go_wp2
  go_ret
  exact ⟨rfl, HB.out⟩
set_option maxRecDepth 100000 in
set_option maxHeartbeats 8000000 in
theorem make_any (h : EX w w t m c y T d N) (cap : Nat) (hW : Words w A n xs) (hA : xs ≠ [] → ∀ a, A = some a → a.block ∉ [t, m, c, y]) (hi : n ≤ i) (b0 : 0 ≤ b) (b1 : b ≤ 131072) (hn : n ≤ 5000) (hN : N ≤ 20000) :
    Calls Try.prog 67 #[.pointer (some ⟨t, 0, none⟩), gv p b i l q, .int .i64 k, .slice A n cap] w fun e w' => ∃ T' r, e = .returned (.int .i64 r.1) ∧ Lay2 d (bankAt b k + 2) xs (bankAt b k) [0, (n : Int)] r ∧ EX w w' t m c y T' r.2 (N + 2 * n + 24) := by
  have hb0 := wBox_below w t n cap p b i l q k A
  have hlt := h.dev.lt
  have hC := cb_new (n := n) (cap := cap) (p := p) (b := b) (i := i) (l := l) (q := q) (k := k) (A := A) hlt
  have hz := wBox_size w t n cap p b i l q k A
  have hl : ∀ v, Below w.heap.size w ((wBox w t n cap p b i l q k A).alloc v) := fun v => hb0.alloc hb0.size v
  have hlz : ∀ v, (wBox w t n cap p b i l q k A).heap.size < ((wBox w t n cap p b i l q k A).alloc v).heap.size := fun v => by simp
  have hnew : ∀ (f0 f1 : Value), ((wBox w t n cap p b i l q k A).alloc (.cells #[f0, f1] 34)).cell? ⟨(wBox w t n cap p b i l q k A).heap.size, 0, none⟩ = some f0 := fun f0 f1 => by go_simp
  have hnew1 : ∀ (f0 f1 : Value), ((wBox w t n cap p b i l q k A).alloc (.cells #[f0, f1] 34)).cell? ⟨(wBox w t n cap p b i l q k A).heap.size, 1, none⟩ = some f1 := fun f0 f1 => by go_simp
  have hcb : ∀ v, CB ((wBox w t n cap p b i l q k A).alloc v) [t, m, c, y] w.heap.size (w.heap.size + 1) (w.heap.size + 2) (w.heap.size + 3) t p b i l q k A n cap := fun v => hC.below ((Below.refl _ _).alloc (Nat.le_refl _) v)
  have CF := fun v (h0) (h1) => make_first (w := (wBox w t n cap p b i l q k A).alloc v) (s := (wBox w t n cap p b i l q k A).heap.size) (h.at_ (hl v)) (hcb v) (hW.below (hl v)) hA b0 b1 hn hN h0 h1 (hlz v) (by rw [hz]; exact out_at hlt 4)
  have CG := CF _ (hnew _ _) (hnew1 _ _)
  have HX := Lib.hid (hl (.cells #[.func (.func 89) #[] #[.pointer (some ⟨w.heap.size, 0, none⟩), .pointer (some ⟨w.heap.size + 1, 0, none⟩), .pointer (some ⟨w.heap.size + 2, 0, none⟩), .pointer (some ⟨w.heap.size + 3, 0, none⟩)], .func (.func 90) #[] #[.pointer (some ⟨w.heap.size, 0, none⟩), .pointer (some ⟨w.heap.size + 1, 0, none⟩), .pointer (some ⟨w.heap.size + 2, 0, none⟩), .pointer (some ⟨w.heap.size + 3, 0, none⟩)]] 34))
  rw [hz] at CG
  have CC := Lib.hid CG
  clear h hW hA hb0 hlt hC hz hl hlz hnew hnew1 hcb CF CG
  unfold wBox at CC HX
  unfold gv
  have hmf : ∀ (fn : Fn) (first cap : Array Value) (w : World), (Instr.makeFunc fn first cap).run Try.prog w = .ok (.func fn first cap) w := fun _ _ _ _ => rfl
  go_enter Try.func67, Try.ntmps67
  go_wp2_with (go_at_call 69; refine (CC.out).mono ?_; rintro e w3 ⟨T', r, rfl, hL, hE⟩; have HL := Lib.hid hL; have HE := Lib.hid (EX.from_ HX.out hE); clear hL hE)
  go_ret
  exact ⟨T', r, rfl, HL.out, HE.out⟩
end
end Go.Proofs.Ytdnoniolpplgiaa
