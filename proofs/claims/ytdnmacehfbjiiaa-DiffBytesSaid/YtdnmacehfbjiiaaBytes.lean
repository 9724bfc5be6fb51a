/- Where bytes part, and at how many places: a contract (package diff). -/
import Derived.Test.YtdnmacehfbjiiaaBase
namespace Go.Proofs.Ytdnmacehfbjiiaa
open Go.RowKit Go.Maps Go.Sort Go.Shelf

/-- At how many of the first places they differ. -/
def dN (xs ys : List UInt8) : Nat → Nat
  | 0 => 0
  | j + 1 => dN xs ys j + if xs[j]? = ys[j]? then 0 else 1
theorem dN_le (xs ys : List UInt8) : ∀ j, dN xs ys j ≤ j
  | 0 => Nat.le_refl _
  | j + 1 => by
    have := dN_le xs ys j
    unfold dN
    split <;> omega
theorem dN_zero (xs ys : List UInt8) : ∀ j, dN xs ys j = 0 ↔ ∀ k, k < j → xs[k]? = ys[k]?
  | 0 => by simp [dN]
  | j + 1 => by
    have ih := dN_zero xs ys j
    unfold dN
    by_cases h : xs[j]? = ys[j]?
    · rw [if_pos h, Nat.add_zero, ih]
      constructor
      · intro hk k hkj
        by_cases e : k = j
        · rw [e]; exact h
        · exact hk k (by omega)
      · intro hk k hkj; exact hk k (by omega)
    · rw [if_neg h]
      constructor
      · intro e; omega
      · intro hk; exact absurd (hk j (by omega)) h
theorem dN_tail (xs ys : List UInt8) : ∀ k, min xs.length ys.length + k ≤ max xs.length ys.length → dN xs ys (min xs.length ys.length + k) = dN xs ys (min xs.length ys.length) + k
  | 0, _ => rfl
  | k + 1, h => by
    have ih := dN_tail xs ys k (by omega)
    rw [← Nat.add_assoc]
    show dN xs ys (min xs.length ys.length + k) + (if xs[min xs.length ys.length + k]? = ys[min xs.length ys.length + k]? then 0 else 1) = _
    rw [ih, if_neg]
    · omega
    · intro e
      rcases Nat.le_total xs.length ys.length with hl | hl
      · rw [List.getElem?_eq_none (by omega), eq_comm, List.getElem?_eq_none_iff] at e; omega
      · rw [eq_comm, List.getElem?_eq_none (by omega), eq_comm, List.getElem?_eq_none_iff] at e; omega
theorem dN_max (xs ys : List UInt8) : dN xs ys (max xs.length ys.length) = dN xs ys (min xs.length ys.length) + (max xs.length ys.length - min xs.length ys.length) := by
  have := dN_tail xs ys (max xs.length ys.length - min xs.length ys.length) (by omega)
  rw [← this]
  congr 1
  omega
theorem dN_same (xs ys : List UInt8) : dN xs ys (max xs.length ys.length) = 0 ↔ xs = ys := by
  rw [dN_zero]
  constructor
  · intro h
    apply List.ext_getElem?
    intro k
    by_cases hk : k < max xs.length ys.length
    · exact h k hk
    · rw [List.getElem?_eq_none (by omega), List.getElem?_eq_none (by omega)]
  · rintro rfl k _; rfl
/-- Where they part first. -/
def AtIs (xs ys : List UInt8) (a : Nat) : Prop := a ≤ min xs.length ys.length ∧ (∀ k, k < a → xs[k]? = ys[k]?) ∧ (a = min xs.length ys.length ∨ xs[a]? ≠ ys[a]?)
theorem AtIs.uniq {xs ys : List UInt8} {a b : Nat} (h : AtIs xs ys a) (k : AtIs xs ys b) : a = b := by
  rcases Nat.lt_trichotomy a b with hl | he | hg
  · rcases h.2.2 with e | e
    · have := k.1; omega
    · exact absurd (k.2.1 a hl) e
  · exact he
  · rcases k.2.2 with e | e
    · have := h.1; omega
    · exact absurd (h.2.1 b hg) e
theorem drew_below {B : Nat} {a w : World} (h : Below B a w) (n : Nat) : Below B a (w.drewN n) := h.trans ⟨rfl, rfl, rfl, Nat.le_refl _, fun _ _ => rfl⟩
set_option maxRecDepth 100000 in
set_option maxHeartbeats 8000000 in
theorem bytes_any {w : World} {A A2 : Option Addr} {n m : Nat} {xs ys : List UInt8} (c c2 : Nat) (h : Bytes w A n xs) (h2 : Bytes w A2 m ys) (hn : n ≤ 100000) (hm : m ≤ 100000) : Calls Try.prog 11 #[.slice A n c, .slice A2 m c2] w fun e w' => ∃ a, AtIs xs ys a ∧ e = .returned (.tuple #[.int .i64 (a : Int), .int .i64 (dN xs ys (max n m) : Int)]) ∧ Below w.heap.size w w' := by
  have H := Lib.hid h
  have H2 := Lib.hid h2
  have hl1 := h.1
  have hl2 := h2.1
  clear h h2
  go_enter Try.func11, Try.ntmps11
  go_wp2
  go_loopw [7, 16] (fun v u wr => ∃ j : Nat, j ≤ min n m ∧ u = .int .i64 j ∧ v = .int .i64 (dN xs ys j : Int) ∧ Below w.heap.size w wr) (fun _ u _ => min n m - (intOf u).toNat)
  case atStart => exact ⟨0, Nat.zero_le _, rfl, rfl, Below.refl _ _⟩
  case round =>
    obtain ⟨j, hj, rfl, rfl, hb⟩ := hrel
    have HB := Lib.hid hb
    clear hb
    have hdl := dN_le xs ys j
    by_cases hlt : j < min n m
    · obtain ⟨g, off, rfl, hgl, x, hx, c0⟩ := (H.out.below HB.out).at (show j < n by omega)
      obtain ⟨g2, off2, rfl, hgl2, y, hy, d0⟩ := (H2.out.below HB.out).at (show j < m by omega)
      have HS := Lib.hid (show dN xs ys (j + 1) = dN xs ys j + if x = y then 0 else 1 from by
        show dN xs ys j + (if xs[j]? = ys[j]? then 0 else 1) = _
        rw [hx, hy]; simp)
      have h1 : (j : Int) < n := by omega
      have h2 : (j : Int) < m := by omega
      have h0 : (0 : Int) ≤ j := by omega
      have hmm : (j : Int) < min (n : Int) (m : Int) := by omega
      clear hx hy
      generalize dN xs ys j = q at *
      by_cases e : x = y
      · rw [if_pos e] at HS
        have hq : ((x.toNat : Int) != (y.toNat : Int)) = false := by rw [e]; simp
        clear e
        go_upto_region 5 with fail
        go_quiet (fail)
        go_wp2
        go_roundw
        case rel => exact ⟨j + 1, by omega, by go_num, by rw [HS.out]; rfl, by first | exact drew_below HB.out _ | exact HB.out.drew⟩
        case measure => simp [intOf]; omega
      · rw [if_neg e] at HS
        have hne : (x.toNat : Int) ≠ (y.toNat : Int) := fun h => e (UInt8.toNat_inj.1 (by omega))
        have hq : ((x.toNat : Int) != (y.toNat : Int)) = true := by simpa using hne
        clear e
        go_upto_region 5 with fail
        go_quiet (fail)
        go_wp2
        go_roundw
        case rel => exact ⟨j + 1, by omega, by go_num, by rw [HS.out]; go_num, by first | exact drew_below HB.out _ | exact HB.out.drew⟩
        case measure => simp [intOf]; omega
    · obtain rfl : j = min n m := by omega
      have HDN := Lib.hid (dN_max xs ys)
      rw [hl1, hl2] at HDN
      generalize hq9 : dN xs ys (min n m) = q at *
      have HQ := Lib.hid hq9
      clear hq9 hlt hj
      have hmn : ((min n m : Nat) : Int) = min (n : Int) (m : Int) := by omega
      go_wp2
      go_loopw [6, 32] (fun v u wr => ∃ i : Nat, i ≤ min n m ∧ u = .int .i64 i ∧ v = .int .i64 (min (n : Int) (m : Int)) ∧ (∀ k, k < i → xs[k]? = ys[k]?) ∧ Below w.heap.size w wr) (fun _ u _ => min n m - (intOf u).toNat)
      case atStart => exact ⟨0, Nat.zero_le _, rfl, rfl, fun k hk => absurd hk (by omega), HB.out⟩
      case round =>
        obtain ⟨i, hi, rfl, rfl, hall, hb⟩ := hrel
        have HB3 := Lib.hid hb
        have HALL := Lib.hid hall
        clear hb hall
        have hw1 : IntKind.i64.wrap ((q : Int) + max (n : Int) (m : Int)) = (q : Int) + max (n : Int) (m : Int) := IntWalk.i64_in _ (by omega)
        have hw2 : IntKind.i64.wrap ((q : Int) + max (n : Int) (m : Int) - min (n : Int) (m : Int)) = (q : Int) + max (n : Int) (m : Int) - min (n : Int) (m : Int) := IntWalk.i64_in _ (by omega)
        have HV := Lib.hid (show (q : Int) + max (n : Int) (m : Int) - min (n : Int) (m : Int) = (dN xs ys (max n m) : Int) from by rw [HDN.out]; omega)
        by_cases hlt : i < min n m
        · obtain ⟨g, off, rfl, hgl, x, hx, c0⟩ := (H.out.below HB3.out).at (show i < n by omega)
          obtain ⟨g2, off2, rfl, hgl2, y, hy, d0⟩ := (H2.out.below HB3.out).at (show i < m by omega)
          have h1 : (i : Int) < n := by omega
          have h2 : (i : Int) < m := by omega
          have h0 : (0 : Int) ≤ i := by omega
          have hmm : (i : Int) < min (n : Int) (m : Int) := by omega
          have HX := Lib.hid hx
          have HY := Lib.hid hy
          clear hx hy
          by_cases e : x = y
          · have hq : ((x.toNat : Int) != (y.toNat : Int)) = false := by rw [e]; simp
            have HN := Lib.hid (show ∀ k, k < i + 1 → xs[k]? = ys[k]? from fun k hk => by
              by_cases ek : k = i
              · rw [ek, HX.out, HY.out, e]
              · exact HALL.out k (by omega))
            clear e
            go_upto_region 11 with fail
            go_quiet (fail)
            go_wp2
            go_roundw
            case rel => exact ⟨i + 1, by omega, by go_num, rfl, HN.out, by first | exact drew_below HB3.out _ | exact HB3.out.drew⟩
            case measure => simp [intOf]; omega
          · have hne : (x.toNat : Int) ≠ (y.toNat : Int) := fun h => e (UInt8.toNat_inj.1 (by omega))
            have hq : ((x.toNat : Int) != (y.toNat : Int)) = true := by simpa using hne
            have HA := Lib.hid (show AtIs xs ys i from ⟨by rw [hl1, hl2]; omega, HALL.out, .inr (by rw [HX.out, HY.out]; simpa using e)⟩)
            clear e
            go_upto_region 11 with fail
            go_quiet (fail)
            go_wp2
            go_ret2
            exact ⟨i, HA.out, by rw [← HV.out]; rfl, by first | exact drew_below HB3.out _ | exact HB3.out.drew⟩
        · obtain rfl : i = min n m := by omega
          have HA := Lib.hid (show AtIs xs ys (min n m) from ⟨by rw [hl1, hl2]; omega, HALL.out, .inl (by rw [hl1, hl2])⟩)
          go_wp2
          go_ret2
          exact ⟨min n m, HA.out, by rw [← HV.out, hmn]; rfl, HB3.out⟩
end Go.Proofs.Ytdnmacehfbjiiaa
