/- Deeds, as a slice that came in; whether they are few; the first example: contracts. -/
import Derived.Test.YtdnoniolpplgiaaCrash
namespace Go.Proofs.Ytdnoniolpplgiaa
open Go.RowKit Go.Maps Go.Sort Go.Shelf

/-- A deed; where what is kept lies. -/
structure De where
  k : Int
  i : Int
  v : Int
  ka : Option Addr
  kn : Nat
  kc : Nat
  keep : List Bool

/-- A deed's four cells, from there on. -/
def DeAt (w : World) (b off : Nat) (x : De) : Prop :=
  w.cell? ⟨b, off, none⟩ = some (.int .i64 x.k) ∧ w.cell? ⟨b, off + 1, none⟩ = some (.int .i64 x.i) ∧ w.cell? ⟨b, off + 2, none⟩ = some (.int .u64 x.v) ∧ w.cell? ⟨b, off + 3, none⟩ = some (.slice x.ka x.kn x.kc)
/-- A slice reads as these deeds; what they keep lies below 'lo'. -/
def Deeds (w : World) (lo : Nat) (A : Option Addr) (n : Nat) (xs : List De) : Prop :=
  xs.length = n ∧ (∀ x ∈ xs, Bools w x.ka x.kn x.keep ∧ (x.keep ≠ [] → ∀ a, x.ka = some a → a.block < lo)) ∧ (xs = [] ∨ ∃ b off, A = some ⟨b, off, none⟩ ∧ b < w.heap.size ∧ ∀ i, (h : i < xs.length) → DeAt w b (off + i * 4) xs[i])
theorem DeAt.below {w w' : World} {b off : Nat} {x : De} (h : DeAt w b off x) (hl : b < w.heap.size) (hb : Below w.heap.size w w') : DeAt w' b off x :=
  ⟨(hb.cell hl).trans h.1, (hb.cell hl).trans h.2.1, (hb.cell hl).trans h.2.2.1, (hb.cell hl).trans h.2.2.2⟩
theorem Deeds.below {w w' : World} {lo : Nat} {A : Option Addr} {n : Nat} {xs : List De} (h : Deeds w lo A n xs) (hb : Below w.heap.size w w') : Deeds w' lo A n xs :=
  ⟨h.1, fun x hx => ⟨(h.2.1 x hx).1.below hb, (h.2.1 x hx).2⟩, h.2.2.imp id (fun ⟨b, off, e, hl, hc⟩ => ⟨b, off, e, Nat.lt_of_lt_of_le hl hb.size, fun i hi => (hc i hi).below hl hb⟩)⟩
theorem Deeds.at {w : World} {lo : Nat} {A : Option Addr} {n : Nat} {xs : List De} (h : Deeds w lo A n xs) {i : Nat} (hi : i < n) :
    ∃ b off, A = some ⟨b, off, none⟩ ∧ b < w.heap.size ∧ ∃ x, xs[i]? = some x ∧ x ∈ xs ∧ w.cell? ⟨b, off + i * 4, none⟩ = some (.int .i64 x.k) ∧ w.cell? ⟨b, off + i * 4 + 1, none⟩ = some (.int .i64 x.i) ∧ w.cell? ⟨b, off + i * 4 + 2, none⟩ = some (.int .u64 x.v) ∧ w.cell? ⟨b, off + i * 4 + 3, none⟩ = some (.slice x.ka x.kn x.kc) ∧ Bools w x.ka x.kn x.keep ∧ (x.keep ≠ [] → ∀ a, x.ka = some a → a.block < lo) := by
  have hx : i < xs.length := by rw [h.1]; exact hi
  rcases h.2.2 with h2 | ⟨b, off, rfl, hl, hc⟩
  · subst h2; simp at hx
  · obtain ⟨c0, c1, c2, c3⟩ := hc i hx
    obtain ⟨e1, e2⟩ := h.2.1 _ (List.getElem_mem hx)
    exact ⟨b, off, rfl, hl, xs[i], List.getElem?_eq_getElem hx, List.getElem_mem hx, c0, c1, c2, c3, e1, e2⟩

def fewB (xs : List De) : Bool := xs.all (fun x => decide (x.kn ≤ 60)) && decide (xs.length ≤ 60)
theorem fewB_le {xs : List De} (h : fewB xs = true) : xs.length ≤ 60 ∧ ∀ x ∈ xs, x.kn ≤ 60 := by
  unfold fewB at h
  rw [Bool.and_eq_true, List.all_eq_true] at h
  exact ⟨by simpa using h.2, fun x hx => by simpa using h.1 x hx⟩

set_option maxRecDepth 100000 in
set_option maxHeartbeats 4000000 in
theorem few_any {w : World} {lo : Nat} {A : Option Addr} {n : Nat} {xs : List De} (cap : Nat) (h : Deeds w lo A n xs) (hm : n ≤ maxLen) : Calls Try.prog 12 #[.slice A n cap] w fun e w' => e = .returned (.bool (fewB xs)) ∧ Below w.heap.size w w' := by
  have H := Lib.hid h
  have hl := h.1
  unfold maxLen at hm
  have hall : (∀ j x, j < n → xs[j]? = some x → x.kn ≤ 60) → fewB xs = decide ((n : Int) ≤ 60) := by
    intro hx
    unfold fewB
    rw [List.all_eq_true.2 (fun x hm => by
      obtain ⟨j, hj, rfl⟩ := List.mem_iff_getElem.1 hm
      have := hx j _ (by omega) (List.getElem?_eq_getElem hj)
      simpa using this), Bool.true_and, hl, decide_eq_decide]
    omega
  have HALL := Lib.hid hall
  generalize hfb0 : fewB xs = fb
  have HFB := Lib.hid hfb0
  clear h hall hfb0
  go_enter Try.func12, Try.ntmps12
  go_wp2
  go_loopw [7] (fun k wr => ∃ j : Nat, j ≤ n ∧ k = .int .i64 j ∧ (∀ i x, i < j → xs[i]? = some x → x.kn ≤ 60) ∧ Below w.heap.size w wr) (fun k _ => n - (intOf k).toNat)
  case atStart => exact ⟨0, Nat.zero_le _, rfl, fun i x hi => by omega, Below.refl _ _⟩
  case round =>
    obtain ⟨j, hj, rfl, hp, hb⟩ := hrel
    have HPP := Lib.hid hp
    have hbs := hb.size
    clear hp
    by_cases hlt : j < n
    · obtain ⟨g, off, rfl, hgl, x, hx, hxm, c0, c1, c2, c3, _, _⟩ := (H.out.below hb).at hlt
      have HX := Lib.hid hx
      have HM := Lib.hid hxm
      clear hx hxm
      have hba := fun o => hb.alloc hbs o
      by_cases h60 : x.kn ≤ 60
      · have h61 : ¬ (60 : Int) < (x.kn : Int) := by omega
        go_wp2
        go_roundw
        case rel => exact ⟨j + 1, by omega, by go_num, (fun i y hi hy => by
          rcases Nat.lt_succ_iff_lt_or_eq.1 hi with h | rfl
          · exact HPP.out i y h hy
          · rw [HX.out] at hy; cases hy; exact h60), hba _⟩
        case measure => simp [intOf]; omega
      · have h61 : (60 : Int) < (x.kn : Int) := by omega
        have hfb : fewB xs = false := by
          cases e : fewB xs with
          | false => rfl
          | true => exact absurd ((fewB_le e).2 x HM.out) h60
        have HF2 := Lib.hid (HFB.out.symm.trans hfb)
        clear hfb HALL
        go_wp2
        go_ret
        exact ⟨by rw [HF2.out]; rfl, hba _⟩
    · obtain rfl : j = n := by omega
      have HF2 := Lib.hid (HFB.out.symm.trans (HALL.out HPP.out))
      clear HALL HPP
      go_wp2
      go_ret
      exact ⟨by rw [HF2.out]; rfl, hb⟩

/-- A device that is the call's own: of these places at most, below that. -/
def DevS (w0 w : World) (T : List Int) (d : Dv) (t m c y : Nat) : Prop := DevIs w t m c y T d ∧ (∀ i ∈ [t, m, c, y], w0.heap.size ≤ i) ∧ Below w0.heap.size w0 w
end Go.Proofs.Ytdnoniolpplgiaa
