/- Of a place: the package's At, the reference's PageOf; and Len. -/
import Derived.Test.YtefbhcpcbolbiaaRight2
namespace Go.Proofs.Ytefbhcpcbolbiaa
open Go.RowKit

/-- Whether a place lies in an extent. -/
def inB (x : E) (i : Int) : Bool := decide (x.f ≤ i) && decide (i < wrap64 (x.f + x.l))
def pageIn (x : E) (i : Int) : Int := wrap64 (wrap64 (x.p + i) - x.f)
def findP (xs : List E) (i : Int) : Int := match xs.find? (inB · i) with | some x => pageIn x i | none => 0
def pageB (xs : List E) (i : Int) : Int := if rightB xs then findP xs i else 0

theorem findP_none {xs : List E} {i : Int} (h : ∀ (j : Nat) (x : E), xs[j]? = some x → inB x i = false) : findP xs i = 0 := by
  unfold findP
  rw [List.find?_eq_none.2]
  intro x hx
  obtain ⟨j, hj⟩ := List.getElem?_of_mem hx
  simp [h j x hj]
theorem findP_at {xs : List E} {i : Int} : ∀ {j : Nat} {x : E}, (∀ k y, k < j → xs[k]? = some y → inB y i = false) → xs[j]? = some x → inB x i = true → findP xs i = pageIn x i := by
  induction xs with
  | nil => intro j x _ hx; simp at hx
  | cons y t ih =>
    intro j x h hx hb
    unfold findP
    cases j with
    | zero => simp at hx; subst hx; simp [List.find?, hb]
    | succ j =>
      have hy := h 0 y (by omega) (by simp)
      have := ih (j := j) (fun k z hk hz => h (k + 1) z (by omega) (by simpa using hz)) (by simpa using hx) hb
      unfold findP at this
      simpa [List.find?, hy] using this

set_option maxRecDepth 100000 in
set_option maxHeartbeats 4000000 in
theorem pageof_any {A : Option Addr} {n : Nat} {xs : List E} {w : World} (cap : Nat) (i : Int) (h : Exts w A n xs) (hm : n ≤ maxLen) : Calls Try.prog 10 #[.slice A n cap, .int .i64 i] w fun e w' => e = .returned (.int .i64 (pageB xs i)) ∧ Below w.heap.size w w' := by
  have CR0 := fun (w' : World) (hb : Below w.heap.size w w') => rightref_any cap (h.below hb) hm
  have CR := Lib.hid CR0
  clear CR0
  unfold maxLen at hm
  have H := Lib.hid h
  have hl : xs.length = n := h.1
  clear h
  have hp : pageB xs i = if rightB xs then findP xs i else 0 := rfl
  have Hp := Lib.hid hp
  clear hp
  generalize hr : rightB xs = r at *
  have Hr := Lib.hid hr
  clear hr
  go_enter Try.func10, Try.ntmps10
  go_wp2
  go_loopw [9] (fun c wr => ∃ j : Nat, j ≤ n ∧ c = .int .i64 j ∧ (r = true → ∀ k y, k < j → xs[k]? = some y → inB y i = false) ∧ Below w.heap.size w wr) (fun c _ => n - (intOf c).toNat)
  case atStart => exact ⟨0, Nat.zero_le _, rfl, fun _ k y hk => absurd hk (Nat.not_lt_zero _), Below.refl _ _⟩
  case round =>
    obtain ⟨j, hj, rfl, hall, hb⟩ := hrel
    have Hall := Lib.hid hall
    clear hall
    by_cases hlt : j < n
    · obtain ⟨b, off, rfl, hbl, x, hx, c0, c1, c2⟩ := (H.out.below hb).at hlt
      have Hx := Lib.hid hx
      clear hx
      have hba : Below w.heap.size w (wr.alloc (.cells #[.int .i64 x.f, .int .i64 x.l, .int .i64 x.p] 29)) := hb.alloc hb.size _
      have CRx := Lib.hid (CR.out _ hba)
      cases r with
      | false =>
        go_wp2_with (first | (go_at_call 8; refine (CRx.out).mono ?_; rintro e w2 ⟨rfl, hb2⟩))
        go_roundw
        case rel => exact ⟨j + 1, by omega, by go_num, (fun h => by cases h), hba.trans (hb2.mono hba.size)⟩
        case measure => simp [intOf]; omega
      | true =>
        by_cases a1 : x.f ≤ i
        · by_cases a2 : i < wrap64 (x.f + x.l)
          · have hin : inB x i = true := by unfold inB; simp [a1, a2]
            have hfin : pageB xs i = pageIn x i := by rw [Hp.out, if_pos rfl]; exact findP_at (Hall.out rfl) Hx.out hin
            unfold pageIn at hfin
            have Hfin := Lib.hid hfin
            clear hin hfin
            go_wp2_with (first | (go_at_call 8; refine (CRx.out).mono ?_; rintro e w2 ⟨rfl, hb2⟩; have x0 : w2.cell? ⟨wr.heap.size, 0, none⟩ = some (.int .i64 x.f) := (hb2.cell (by simp)).trans (by go_simp); have x1 : w2.cell? ⟨wr.heap.size, 1, none⟩ = some (.int .i64 x.l) := (hb2.cell (by simp)).trans (by go_simp); have x2 : w2.cell? ⟨wr.heap.size, 2, none⟩ = some (.int .i64 x.p) := (hb2.cell (by simp)).trans (by go_simp)))
            go_ret
            exact ⟨by rw [Hfin.out]; rfl, hba.trans (hb2.mono hba.size)⟩
          · have hin : inB x i = false := by unfold inB; simp [a2]
            have Hin := Lib.hid hin
            clear hin
            go_wp2_with (first | (go_at_call 8; refine (CRx.out).mono ?_; rintro e w2 ⟨rfl, hb2⟩; have x0 : w2.cell? ⟨wr.heap.size, 0, none⟩ = some (.int .i64 x.f) := (hb2.cell (by simp)).trans (by go_simp); have x1 : w2.cell? ⟨wr.heap.size, 1, none⟩ = some (.int .i64 x.l) := (hb2.cell (by simp)).trans (by go_simp); have x2 : w2.cell? ⟨wr.heap.size, 2, none⟩ = some (.int .i64 x.p) := (hb2.cell (by simp)).trans (by go_simp)))
            go_roundw
            case rel => exact ⟨j + 1, by omega, by go_num, fun h k y hk hy => (Nat.lt_succ_iff_lt_or_eq.1 hk).elim (fun hk => Hall.out h k y hk hy) (fun hk => by subst hk; rw [Hx.out] at hy; cases hy; exact Hin.out), hba.trans (hb2.mono hba.size)⟩
            case measure => simp [intOf]; omega
        · have hin : inB x i = false := by unfold inB; simp; omega
          have Hin := Lib.hid hin
          clear hin
          go_wp2_with (first | (go_at_call 8; refine (CRx.out).mono ?_; rintro e w2 ⟨rfl, hb2⟩; have x0 : w2.cell? ⟨wr.heap.size, 0, none⟩ = some (.int .i64 x.f) := (hb2.cell (by simp)).trans (by go_simp); have x1 : w2.cell? ⟨wr.heap.size, 1, none⟩ = some (.int .i64 x.l) := (hb2.cell (by simp)).trans (by go_simp); have x2 : w2.cell? ⟨wr.heap.size, 2, none⟩ = some (.int .i64 x.p) := (hb2.cell (by simp)).trans (by go_simp)))
          go_roundw
          case rel => exact ⟨j + 1, by omega, by go_num, fun h k y hk hy => (Nat.lt_succ_iff_lt_or_eq.1 hk).elim (fun hk => Hall.out h k y hk hy) (fun hk => by subst hk; rw [Hx.out] at hy; cases hy; exact Hin.out), hba.trans (hb2.mono hba.size)⟩
          case measure => simp [intOf]; omega
    · have e : j = n := by omega
      have hge : ¬ (j : Int) < (n : Int) := by omega
      have hfin : pageB xs i = 0 := by
        rw [Hp.out]
        cases r with
        | false => rfl
        | true => rw [if_pos rfl]; exact findP_none (fun k y hy => Hall.out rfl k y (by have := (List.getElem?_eq_some_iff.1 hy).1; omega) hy)
      have Hfin := Lib.hid hfin
      clear e hlt hj hfin
      go_wp2
      go_ret
      exact ⟨by rw [Hfin.out]; rfl, hb⟩
end Go.Proofs.Ytefbhcpcbolbiaa
