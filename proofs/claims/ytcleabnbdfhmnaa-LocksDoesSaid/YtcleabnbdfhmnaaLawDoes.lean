/- LocksDoes, walked: whatever is taken and given: who has which lock, and whether one may have it. -/
import Derived.Test.YtcleabnbdfhmnaaApp
namespace Go.Proofs.Ytcleabnbdfhmnaa
open Go.RowKit Go.Maps Go.Sort Go.Shelf

theorem SlI.kept {w w' : World} {X : Option Addr} {n c b : Nat} {xs : List De} (h : SlI w X n c xs) (hg : w.grownBy w' (some b)) (hf : ∀ a, X = some a → a.block ≠ b) : SlI w' X n c xs := by
  refine ⟨⟨h.rd.1, ?_⟩, h.cap, h.at_.imp id (fun ⟨b2, off, e, hl⟩ => ⟨b2, off, e, Nat.lt_of_lt_of_le hl hg.size⟩)⟩
  rcases h.rd.2 with h2 | ⟨b2, off, e, hl, hc⟩
  · exact .inl h2
  · have hne := hf _ e
    refine .inr ⟨b2, off, e, Nat.lt_of_lt_of_le hl hg.size, fun i hi => ?_⟩
    obtain ⟨c0, c1, c2, c3⟩ := hc i hi
    exact ⟨hg.cell c0 (by simpa using hne), hg.cell c1 (by simpa using hne), hg.cell c2 (by simpa using hne), hg.cell c3 (by simpa using hne)⟩

theorem delL_none {xs : List L} {k : Int} (h : xs.any (fun y => y.who == k) = false) : delL xs k = xs := by
  unfold delL
  rw [List.filter_eq_self]
  intro y hy
  rw [List.any_eq_false] at h
  have := h y hy
  simpa using this

theorem SlI.tail {w : World} {b off n c : Nat} {xs : List De} (h : SlI w (some ⟨b, off, none⟩) n c xs) {k : Nat} (hk : k ≤ n) : Deeds w (if c = k then some ⟨b, off, none⟩ else some ⟨b, off + k * 4, none⟩) (n - k) (xs.drop k) := by
  have hl := h.rd.1
  have hc := h.cap
  by_cases h0 : c = k
  · rw [if_pos h0]
    exact ⟨by rw [List.length_drop]; omega, .inl (List.drop_eq_nil_of_le (by omega))⟩
  · rw [if_neg h0]; exact Deeds.drop h.rd hk
theorem tail_form (c k b off : Nat) : (if c = k then some (⟨b, off, none⟩ : Addr) else some ⟨b, off + k * 4, none⟩) = none ∨ ∃ b' off', (if c = k then some (⟨b, off, none⟩ : Addr) else some ⟨b, off + k * 4, none⟩) = some ⟨b', off', none⟩ := by
  right; split
  · exact ⟨_, _, rfl⟩
  · exact ⟨_, _, rfl⟩

theorem keep4 {w w1 w2 : World} {B : Nat} {v0 v1 v2 v3 : Value} (hB : B < w.heap.size) (h : w1.cell? ⟨B, 0, none⟩ = some v0 ∧ w1.cell? ⟨B, 1, none⟩ = some v1 ∧ w1.cell? ⟨B, 2, none⟩ = some v2 ∧ w1.cell? ⟨B, 3, none⟩ = some v3 ∧ Below w.heap.size w w1) (k : Below w1.heap.size w1 w2) :
    w2.cell? ⟨B, 0, none⟩ = some v0 ∧ w2.cell? ⟨B, 1, none⟩ = some v1 ∧ w2.cell? ⟨B, 2, none⟩ = some v2 ∧ w2.cell? ⟨B, 3, none⟩ = some v3 ∧ Below w.heap.size w w2 := by
  obtain ⟨h0, h1, h2, h3, h4⟩ := h
  have hl := Nat.lt_of_lt_of_le hB h4.size
  exact ⟨(k.cell hl).trans h0, (k.cell hl).trans h1, (k.cell hl).trans h2, (k.cell hl).trans h3, h4.trans (k.mono h4.size)⟩
theorem news0 (w : World) (o : Obj) : Below w.heap.size w (w.alloc o) := (Below.refl _ _).alloc (Nat.le_refl _) _
theorem box_sl (w : World) (xk : Int) (d : L) : SlI (w.alloc (.cells #[.int .i64 xk, .int .i64 d.who, .int .i64 d.ino, .bool d.al] 27)) (some ⟨w.heap.size, 0, none⟩) 1 1 [⟨xk, d⟩] := by
  refine ⟨⟨rfl, .inr ⟨w.heap.size, 0, rfl, by simp, fun i hi => ?_⟩⟩, Nat.le_refl _, .inr ⟨_, _, rfl, by simp⟩⟩
  have h0 : i = 0 := by simpa using hi
  subst h0
  refine ⟨?_, ?_, ?_, ?_⟩ <;> go_simp
theorem deeds_nil {w : World} {xs : List De} {n : Nat} (h : n = 0) (hl : xs.length = n) (k : Nat) : Deeds w none (0 - k) (xs.drop k) := by
  have : xs = [] := List.length_eq_zero_iff.1 (by omega)
  subst this
  exact ⟨by simp, .inl (by simp)⟩

/-- What the law's round begins with, and ends with. -/
structure Rd (w wr : World) (t b j : Nat) (X : Option Addr) (n c : Nat) (xs : List De) : Prop where
  sl : SlI wr X n c xs
  far : ∀ a, X = some a → w.heap.size ≤ a.block ∧ a.block ≠ b
  tab : TabIs wr t b j (xs.map De.d)
  lone : Lone (xs.map De.d)
  bel : Below w.heap.size w wr

set_option maxRecDepth 100000 in
set_option maxHeartbeats 16000000 in
theorem does_walk {A : Option Addr} {m : Nat} {ds : List De} {w : World} (cap : Nat) (h : Deeds w A m ds) (hm : m ≤ maxLen) (hw : ∀ x ∈ ds, W64 x.d.who) : Calls Try.prog 3 #[.slice A m cap] w fun e w' => e = .returned (.bool true) ∧ Below w.heap.size w w' := by
  have CA := Lib.hid (awake_any w)
  have H := Lib.hid h
  have HW := Lib.hid hw
  unfold maxLen at hm
  clear h hw
  by_cases h60 : (60 : Int) < m
  · go_enter Try.func3, Try.ntmps3
    go_wp2_with (first | (go_at_call 7; refine (CA.out).mono ?_; rintro e w1 ⟨rfl, hb1⟩))
    go_ret
    exact ⟨rfl, hb1⟩
  · go_enter Try.func3, Try.ntmps3
    go_wp2_with (first
      | (go_at_call 7; refine (CA.out).mono ?_; rintro e w1 ⟨rfl, hb1⟩)
      | (go_at_call 8; refine (new_any _).mono ?_; rintro e w2 ⟨t, b, rfl, hT, hb2, ht, hbb⟩; have HT := Lib.hid hT; have hbA := hb1.trans (hb2.mono hb1.size); have hbs : w.heap.size ≤ b := Nat.le_trans hb1.size hbb; clear hT hb2))
    go_loopw [4, 26] (fun v k wr => ∃ (j : Nat) (xs : List De) (X : Option Addr) (n c : Nat), j ≤ m ∧ k = .int .i64 j ∧ v = .slice X n c ∧ Rd w wr t b j X n c xs) (fun _ k _ => m - (intOf k).toNat)
    case atStart => exact ⟨0, [], none, 0, 0, Nat.zero_le _, rfl, rfl, ⟨⟨⟨rfl, .inl rfl⟩, Nat.le_refl _, .inl ⟨rfl, rfl⟩⟩, (fun a h => by cases h), HT.out, (fun y hy => by cases hy), hbA⟩⟩
    case round =>
      obtain ⟨j, xs, X, n, c, hj, rfl, rfl, hR⟩ := hrel
      have HR := Lib.hid hR
      have hbr := hR.bel
      have hnl : xs.length = n := hR.sl.rd.1
      have hnj : n ≤ j := by have := hR.tab.len; rw [List.length_map] at this; omega
      have hbl : b < wr.heap.size := hR.tab.map.lt
      clear hR
      by_cases hlt : j < m
      · obtain ⟨g, off, rfl, hgl, x, hx, c0, c1, c2, c3⟩ := (H.out.below hbr).at hlt
        have hwx := HW.out x (List.mem_of_getElem? hx)
        clear hx
        rcases x with ⟨xk, d⟩
        dsimp only at c0 c1 c2 c3 hwx
        have hba : Below wr.heap.size wr (wr.alloc (.cells #[.int .i64 xk, .int .i64 d.who, .int .i64 d.ino, .bool d.al] 27)) := (Below.refl _ _).alloc (Nat.le_refl _) _
        have E0 : (wr.alloc (.cells #[.int .i64 xk, .int .i64 d.who, .int .i64 d.ino, .bool d.al] 27)).cell? ⟨wr.heap.size, 0, none⟩ = some (.int .i64 xk) := by go_simp
        have E1 : (wr.alloc (.cells #[.int .i64 xk, .int .i64 d.who, .int .i64 d.ino, .bool d.al] 27)).cell? ⟨wr.heap.size, 1, none⟩ = some (.int .i64 d.who) := by go_simp
        have E2 : (wr.alloc (.cells #[.int .i64 xk, .int .i64 d.who, .int .i64 d.ino, .bool d.al] 27)).cell? ⟨wr.heap.size, 2, none⟩ = some (.int .i64 d.ino) := by go_simp
        have E3 : (wr.alloc (.cells #[.int .i64 xk, .int .i64 d.who, .int .i64 d.ino, .bool d.al] 27)).cell? ⟨wr.heap.size, 3, none⟩ = some (.bool d.al) := by go_simp
        have hBl : wr.heap.size < (wr.alloc (.cells #[.int .i64 xk, .int .i64 d.who, .int .i64 d.ino, .bool d.al] 27)).heap.size := by simp
        have HBX := Lib.hid (And.intro E0 (And.intro E1 (And.intro E2 (And.intro E3 hBl))))
        have HTW := Lib.hid (fun (w' : World) (hb : Below (wr.alloc (.cells #[.int .i64 xk, .int .i64 d.who, .int .i64 d.ino, .bool d.al] 27)).heap.size (wr.alloc (.cells #[.int .i64 xk, .int .i64 d.who, .int .i64 d.ino, .bool d.al] 27)) w') => HR.out.tab.below (hba.trans (hb.mono hba.size)))
        have HSW := Lib.hid (fun (w' : World) (hb : Below (wr.alloc (.cells #[.int .i64 xk, .int .i64 d.who, .int .i64 d.ino, .bool d.al] 27)).heap.size (wr.alloc (.cells #[.int .i64 xk, .int .i64 d.who, .int .i64 d.ino, .bool d.al] 27)) w') => HR.out.sl.below (hba.trans (hb.mono hba.size)))
        have HBR := Lib.hid (fun (w' : World) (hb : Below (wr.alloc (.cells #[.int .i64 xk, .int .i64 d.who, .int .i64 d.ino, .bool d.al] 27)).heap.size (wr.alloc (.cells #[.int .i64 xk, .int .i64 d.who, .int .i64 d.ino, .bool d.al] 27)) w') => hbr.trans ((hba.trans (hb.mono hba.size)).mono hbr.size))
        have HLN := Lib.hid HR.out.lone
        have HFR := Lib.hid HR.out.far
        clear E0 E1 E2 E3 hBl hba HR hbr
        go_wp2
        generalize hw1 : wr.alloc (.cells #[.int .i64 xk, .int .i64 d.who, .int .i64 d.ino, .bool d.al] 27) = w1 at *
        clear hw1
        generalize hBX : wr.heap.size = BX at *
        clear hBX
        have hz0 := mayN_zero xs d
        go_loopw [7, 8, 35] (fun a mm k wx => ∃ i : Nat, i ≤ n ∧ k = .int .i64 i ∧ a = .int .i64 (atOf xs d.who i) ∧ mm = .bool (mayN xs d i) ∧ Below w1.heap.size w1 wx) (fun _ _ k _ => n - (intOf k).toNat)
        case atStart => exact ⟨0, Nat.zero_le _, rfl, rfl, by rw [hz0], Below.refl _ _⟩
        case round =>
          obtain ⟨i, hin, rfl, rfl, rfl, hbx⟩ := hrel
          obtain ⟨E0, E1, E2, E3, hBl⟩ := HBX.out
          by_cases hli : i < n
          · obtain ⟨g2, off2, rfl, hgl2, y, hy, f0, f1, f2, f3⟩ := (HSW.out _ hbx).rd.at hli
            as_aux_lemma =>
              by_cases hw : y.d.who = d.who
              · by_cases hi : y.d.ino = d.ino
                · cases hya : y.d.al with
                  | true =>
                    rw [hya] at f3
                    have hat2 : atOf xs d.who (i + 1) = (i : Int) := by rw [atOf_at hy]; exact if_pos hw
                    have hmy2 : mayN xs d (i + 1) = false := by rw [mayN_at hy]; simp [*]
                    have hwb : (y.d.who == d.who) = true := by simp [hw]
                    have hib : (y.d.ino == d.ino) = true := by simp [hi]
                    have hbx2 : Below w1.heap.size w1 (wr.alloc (.cells #[.int .i64 y.k, .int .i64 y.d.who, .int .i64 y.d.ino, .bool true] 27)) := hbx.alloc hbx.size _
                    have e1 := (hbx2.cell hBl).trans E1
                    have e2 := (hbx2.cell hBl).trans E2
                    have e3 := (hbx2.cell hBl).trans E3
                    have Hat := Lib.hid hat2
                    have Hmy := Lib.hid hmy2
                    clear hat2 hmy2 hy hw hi E0 E1 E2 E3 hya
                    generalize atOf xs d.who i = av at *
                    generalize mayN xs d i = mv at *
                    go_wp2
                    go_roundw
                    case rel => exact ⟨i + 1, by omega, by go_num, by rw [Hat.out], by rw [Hmy.out], hbx2⟩
                    case measure => simp [intOf]; omega
                  | false =>
                    rw [hya] at f3
                    cases hda : d.al with
                    | true =>
                      have hat2 : atOf xs d.who (i + 1) = (i : Int) := by rw [atOf_at hy]; exact if_pos hw
                      have hmy2 : mayN xs d (i + 1) = false := by rw [mayN_at hy]; simp [*]
                      have hwb : (y.d.who == d.who) = true := by simp [hw]
                      have hib : (y.d.ino == d.ino) = true := by simp [hi]
                      have hbx2 : Below w1.heap.size w1 (wr.alloc (.cells #[.int .i64 y.k, .int .i64 y.d.who, .int .i64 y.d.ino, .bool false] 27)) := hbx.alloc hbx.size _
                      have e1 := (hbx2.cell hBl).trans E1
                      have e2 := (hbx2.cell hBl).trans E2
                      have e3 := (hbx2.cell hBl).trans E3
                      rw [hda] at e3
                      have Hat := Lib.hid hat2
                      have Hmy := Lib.hid hmy2
                      clear hat2 hmy2 hy hw hi E0 E1 E2 E3 hya hda
                      generalize atOf xs d.who i = av at *
                      generalize mayN xs d i = mv at *
                      go_wp2
                      go_roundw
                      case rel => exact ⟨i + 1, by omega, by go_num, by rw [Hat.out], by rw [Hmy.out], hbx2⟩
                      case measure => simp [intOf]; omega
                    | false =>
                      have hat2 : atOf xs d.who (i + 1) = (i : Int) := by rw [atOf_at hy]; exact if_pos hw
                      have hmy2 : mayN xs d (i + 1) = false := by rw [mayN_at hy]; simp [*]
                      have hwb : (y.d.who == d.who) = true := by simp [hw]
                      have hib : (y.d.ino == d.ino) = true := by simp [hi]
                      have hbx2 : Below w1.heap.size w1 (wr.alloc (.cells #[.int .i64 y.k, .int .i64 y.d.who, .int .i64 y.d.ino, .bool false] 27)) := hbx.alloc hbx.size _
                      have e1 := (hbx2.cell hBl).trans E1
                      have e2 := (hbx2.cell hBl).trans E2
                      have e3 := (hbx2.cell hBl).trans E3
                      rw [hda] at e3
                      have Hat := Lib.hid hat2
                      have Hmy := Lib.hid hmy2
                      clear hat2 hmy2 hy hw hi E0 E1 E2 E3 hya hda
                      generalize atOf xs d.who i = av at *
                      generalize mayN xs d i = mv at *
                      go_wp2
                      go_roundw
                      case rel => exact ⟨i + 1, by omega, by go_num, by rw [Hat.out], by rw [Hmy.out], hbx2⟩
                      case measure => simp [intOf]; omega
                · have hat2 : atOf xs d.who (i + 1) = (i : Int) := by rw [atOf_at hy]; exact if_pos hw
                  have hmy2 : mayN xs d (i + 1) = false := by rw [mayN_at hy]; simp [*]
                  have hwb : (y.d.who == d.who) = true := by simp [hw]
                  have hib : (y.d.ino == d.ino) = false := by simp [hi]
                  have hbx2 : Below w1.heap.size w1 (wr.alloc (.cells #[.int .i64 y.k, .int .i64 y.d.who, .int .i64 y.d.ino, .bool y.d.al] 27)) := hbx.alloc hbx.size _
                  have e1 := (hbx2.cell hBl).trans E1
                  have e2 := (hbx2.cell hBl).trans E2
                  have e3 := (hbx2.cell hBl).trans E3
                  have Hat := Lib.hid hat2
                  have Hmy := Lib.hid hmy2
                  clear hat2 hmy2 hy hw hi E0 E1 E2 E3
                  generalize atOf xs d.who i = av at *
                  generalize mayN xs d i = mv at *
                  go_wp2
                  go_roundw
                  case rel => exact ⟨i + 1, by omega, by go_num, by rw [Hat.out], by rw [Hmy.out], hbx2⟩
                  case measure => simp [intOf]; omega
              · by_cases hi : y.d.ino = d.ino
                · cases hya : y.d.al with
                  | true =>
                    rw [hya] at f3
                    have hat2 : atOf xs d.who (i + 1) = atOf xs d.who i := by rw [atOf_at hy]; exact if_neg hw
                    have hmy2 : mayN xs d (i + 1) = false := by rw [mayN_at hy]; simp [*]
                    have hwb : (y.d.who == d.who) = false := by simp [hw]
                    have hib : (y.d.ino == d.ino) = true := by simp [hi]
                    have hbx2 : Below w1.heap.size w1 (wr.alloc (.cells #[.int .i64 y.k, .int .i64 y.d.who, .int .i64 y.d.ino, .bool true] 27)) := hbx.alloc hbx.size _
                    have e1 := (hbx2.cell hBl).trans E1
                    have e2 := (hbx2.cell hBl).trans E2
                    have e3 := (hbx2.cell hBl).trans E3
                    have Hat := Lib.hid hat2
                    have Hmy := Lib.hid hmy2
                    clear hat2 hmy2 hy hw hi E0 E1 E2 E3 hya
                    generalize atOf xs d.who i = av at *
                    generalize mayN xs d i = mv at *
                    go_wp2
                    go_roundw
                    case rel => exact ⟨i + 1, by omega, by go_num, by rw [Hat.out], by rw [Hmy.out], hbx2⟩
                    case measure => simp [intOf]; omega
                  | false =>
                    rw [hya] at f3
                    cases hda : d.al with
                    | true =>
                      have hat2 : atOf xs d.who (i + 1) = atOf xs d.who i := by rw [atOf_at hy]; exact if_neg hw
                      have hmy2 : mayN xs d (i + 1) = false := by rw [mayN_at hy]; simp [*]
                      have hwb : (y.d.who == d.who) = false := by simp [hw]
                      have hib : (y.d.ino == d.ino) = true := by simp [hi]
                      have hbx2 : Below w1.heap.size w1 (wr.alloc (.cells #[.int .i64 y.k, .int .i64 y.d.who, .int .i64 y.d.ino, .bool false] 27)) := hbx.alloc hbx.size _
                      have e1 := (hbx2.cell hBl).trans E1
                      have e2 := (hbx2.cell hBl).trans E2
                      have e3 := (hbx2.cell hBl).trans E3
                      rw [hda] at e3
                      have Hat := Lib.hid hat2
                      have Hmy := Lib.hid hmy2
                      clear hat2 hmy2 hy hw hi E0 E1 E2 E3 hya hda
                      generalize atOf xs d.who i = av at *
                      generalize mayN xs d i = mv at *
                      go_wp2
                      go_roundw
                      case rel => exact ⟨i + 1, by omega, by go_num, by rw [Hat.out], by rw [Hmy.out], hbx2⟩
                      case measure => simp [intOf]; omega
                    | false =>
                      have hat2 : atOf xs d.who (i + 1) = atOf xs d.who i := by rw [atOf_at hy]; exact if_neg hw
                      have hmy2 : mayN xs d (i + 1) = mayN xs d i := by rw [mayN_at hy]; simp [*]
                      have hwb : (y.d.who == d.who) = false := by simp [hw]
                      have hib : (y.d.ino == d.ino) = true := by simp [hi]
                      have hbx2 : Below w1.heap.size w1 (wr.alloc (.cells #[.int .i64 y.k, .int .i64 y.d.who, .int .i64 y.d.ino, .bool false] 27)) := hbx.alloc hbx.size _
                      have e1 := (hbx2.cell hBl).trans E1
                      have e2 := (hbx2.cell hBl).trans E2
                      have e3 := (hbx2.cell hBl).trans E3
                      rw [hda] at e3
                      have Hat := Lib.hid hat2
                      have Hmy := Lib.hid hmy2
                      clear hat2 hmy2 hy hw hi E0 E1 E2 E3 hya hda
                      generalize atOf xs d.who i = av at *
                      generalize mayN xs d i = mv at *
                      go_wp2
                      go_roundw
                      case rel => exact ⟨i + 1, by omega, by go_num, by rw [Hat.out], by rw [Hmy.out], hbx2⟩
                      case measure => simp [intOf]; omega
                · have hat2 : atOf xs d.who (i + 1) = atOf xs d.who i := by rw [atOf_at hy]; exact if_neg hw
                  have hmy2 : mayN xs d (i + 1) = mayN xs d i := by rw [mayN_at hy]; simp [*]
                  have hwb : (y.d.who == d.who) = false := by simp [hw]
                  have hib : (y.d.ino == d.ino) = false := by simp [hi]
                  have hbx2 : Below w1.heap.size w1 (wr.alloc (.cells #[.int .i64 y.k, .int .i64 y.d.who, .int .i64 y.d.ino, .bool y.d.al] 27)) := hbx.alloc hbx.size _
                  have e1 := (hbx2.cell hBl).trans E1
                  have e2 := (hbx2.cell hBl).trans E2
                  have e3 := (hbx2.cell hBl).trans E3
                  have Hat := Lib.hid hat2
                  have Hmy := Lib.hid hmy2
                  clear hat2 hmy2 hy hw hi E0 E1 E2 E3
                  generalize atOf xs d.who i = av at *
                  generalize mayN xs d i = mv at *
                  go_wp2
                  go_roundw
                  case rel => exact ⟨i + 1, by omega, by go_num, by rw [Hat.out], by rw [Hmy.out], hbx2⟩
                  case measure => simp [intOf]; omega
          · have e : i = n := by omega
            have hge : ¬ (i : Int) < (n : Int) := by omega
            have hA : atOf xs d.who i = atE xs d.who := by unfold atE; rw [e, hnl]
            have hM : mayN xs d i = mayB (xs.map De.d) d.who d.ino d.al := by rw [e, ← hnl]; exact mayN_all xs d
            rw [hA, hM]
            have hany := atE_any xs d.who
            clear hA hM e hin hli
            have e0 := (hbx.cell hBl).trans E0
            have e1 := (hbx.cell hBl).trans E1
            have e2 := (hbx.cell hBl).trans E2
            have e3 := (hbx.cell hBl).trans E3
            have hBx := Nat.lt_of_lt_of_le hBl hbx.size
            have HTx := Lib.hid (HTW.out _ hbx)
            have HSx := Lib.hid (HSW.out _ hbx)
            have HBW := Lib.hid (HBR.out _ hbx)
            have hbA2 := atOf_bounds xs d.who xs.length
            have hbA3 : -1 ≤ atE xs d.who ∧ atE xs d.who < xs.length := hbA2
            have CM := Lib.hid (may_any HTx.out hwx d.ino d.al)
            clear E0 E1 E2 E3 hbA2 HBX
            generalize hmv : mayB (xs.map De.d) d.who d.ino d.al = mv at *
            generalize hav0 : atE xs d.who = av at *
            have HMV := Lib.hid hmv
            have HAV := Lib.hid hav0
            have HANY := Lib.hid hany
            clear hmv hav0 hany
            go_upto_if 72 with (first
              | (go_at_call 9; refine (CM.out).mono ?_; rintro e w3 ⟨rfl, hb3⟩; have HT3 := Lib.hid (HTx.out.below hb3); have HS3 := Lib.hid (HSx.out.below hb3); have e0 := (hb3.cell hBx).trans e0; have e1 := (hb3.cell hBx).trans e1; have e2 := (hb3.cell hBx).trans e2; have e3 := (hb3.cell hBx).trans e3; have hB3 := Nat.lt_of_lt_of_le hBx hb3.size; have HB3 := Lib.hid (HBW.out.trans (hb3.mono HBW.out.size)); clear hb3))
            clear HTW HSW HBR HTx HSx HBW CM hbx hBl hBx
            go_cut [4] (fun v wx => ∃ (ys : List De) (X5 : Option Addr) (n5 c5 : Nat), v = .slice X5 n5 c5 ∧ n5 ≤ j + 1 ∧ SlI wx X5 n5 c5 ys ∧ (∀ a, X5 = some a → w.heap.size ≤ a.block ∧ a.block ≠ b) ∧ TabIs wx t b (j + 1) (ys.map De.d) ∧ Lone (ys.map De.d) ∧ Below w.heap.size w wx ∧ wx.cell? ⟨BX, 1, none⟩ = some (.int .i64 d.who) ∧ wx.cell? ⟨BX, 2, none⟩ = some (.int .i64 d.ino) ∧ BX < wx.heap.size)
            case first =>
              by_cases hk : xk = 1
              · have hkb : (xk == 1) = true := by simp [hk]
                clear hk
                by_cases hav : 0 ≤ av
                · as_aux_lemma =>
                    have hany := HANY.out
                    rw [decide_eq_true hav] at hany
                    obtain ⟨q, hq⟩ : ∃ q : Nat, av = q := ⟨av.toNat, by omega⟩
                    have hq' := hq
                    rw [← HAV.out] at hq'
                    obtain ⟨y0, hy0, hyw0⟩ := (atOf_find xs d.who xs.length (Nat.le_refl _)).1 q hq'
                    have hqn : q < n := by rw [← hnl]; exact (List.getElem?_eq_some_iff.1 hy0).1
                    have hcut := cut_map HT3.out.ris hy0 hyw0
                    clear hq' HAV
                    subst hq
                    obtain ⟨b5, off5, hX5⟩ : ∃ b5 off5, X = some ⟨b5, off5, none⟩ := by
                      rcases HS3.out.rd.2 with h2 | ⟨b5, off5, e, _⟩
                      · subst h2; simp at hy0
                      · exact ⟨b5, off5, e⟩
                    subst hX5
                    have hcap := HS3.out.cap
                    have hq0 : (0 : Int) ≤ (q : Int) := by omega
                    have hq1 : (q : Int) ≤ (c : Int) := by omega
                    have hq2 : (q : Int) + 1 ≤ (n : Int) := by omega
                    have hq3 : (q : Int) + 1 ≤ (c : Int) := by omega
                    have hq4 : (0 : Int) ≤ (q : Int) + 1 := by omega
                    have hwq : IntKind.i64.wrap ((q : Int) + 1) = (q : Int) + 1 := by rw [IntWalk.i64_left]; unfold wrap64; omega
                    have hnc : (n : Int) ≤ (c : Int) := by omega
                    have Hany := Lib.hid hany
                    have Hcut := Lib.hid hcut
                    clear hany hav hcut hy0 hyw0 hbA3 HANY
                    go_upto_region 28 with (
                      first
                      | (go_at_call 10; refine (give_any HT3.out hwx).mono ?_; rintro e w4 ⟨rfl, hT4, hg4⟩; rw [Hany.out]; rw [← Hcut.out] at hT4; have HT4 := Lib.hid hT4; have HS4 := Lib.hid (HS3.out.kept hg4 (fun a ha => (HFR.out a ha).2)); have HB4 := Lib.hid (HB3.out.grown hg4 HB3.out.size (fun i hi => by cases hi; exact hbs)); have e1 := hg4.cell e1 (by simp; omega); have e2 := hg4.cell e2 (by simp; omega); have hB4 := Nat.lt_of_lt_of_le hB3 hg4.size; clear hT4 hg4))
                    go_region_held3 (fun w' => Below w4.heap.size w4 w')
                      (first | exact (Below.refl _ _).drew | exact Below.trans (by assumption) (hb5.mono (Below.size (by assumption))) | go_keep)
                      ((first | (refine step_app rfl _ _ rfl (some ⟨b5, off5, none⟩) q (xs.take q) rfl _ (n - (q + 1)) _ (xs.drop (q + 1)) rfl ((HS4.out.below (by first | assumption | exact (Below.refl _ _).drew)).take (by omega)) (SlI.tail (HS4.out.below (by first | assumption | exact (Below.refl _ _).drew)) (by omega)) (tail_form _ _ _ _) (by omega) ?_; intro X5 c5 w5 hS5 hX5 hb5)))
                    have hH : Below w4.heap.size w4 w5 := by assumption
                    have hgb : b < w4.heap.size := HT4.out.map.lt
                    have HT5 := Lib.hid ((HT4.out.below hH).mono (Nat.le_succ j) (by omega))
                    have hlone5 : Lone ((xs.take q ++ xs.drop (q + 1)).map De.d) := by rw [Hcut.out]; exact lone_del HLN.out d.who
                    have LONE5 := Lib.hid hlone5
                    have hfar5 : ∀ a, X5 = some a → w.heap.size ≤ a.block ∧ a.block ≠ b := by
                      intro a ha
                      rcases hX5 with h | ⟨g5, h, hge5⟩
                      · exact HFR.out a (by rw [← h]; exact ha)
                      · rw [h] at ha; cases ha
                        have hs4 := HB4.out.size
                        simp at hge5
                        exact ⟨by dsimp only; omega, by dsimp only; omega⟩
                    have FAR5 := Lib.hid hfar5
                    have SL5 := Lib.hid hS5
                    have BEL5 := Lib.hid (HB4.out.trans (hH.mono HB4.out.size))
                    have EB := Lib.hid (And.intro ((hH.cell hB4).trans e1) (And.intro ((hH.cell hB4).trans e2) (Nat.lt_of_lt_of_le hB4 hH.size)))
                    have hnj5 : q + (n - (q + 1)) ≤ j + 1 := by omega
                    clear hS5 hX5 hb5 hH hlone5 hfar5 e0 e1 e2 e3 Hcut hq0 hq1 hq2 hq3 hq4 hwq hqn hnc hcap HS4 HS3 HFR
                    generalize (if c = q + 1 then some (⟨b5, off5, none⟩ : Addr) else some ⟨b5, off5 + (q + 1) * 4, none⟩) = Yd at *
                    generalize xs.take q ++ xs.drop (q + 1) = ys at *
                    generalize q + (n - (q + 1)) = n5 at *
                    go_wp2
                    go_meet
                    exact ⟨_, _, _, _, rfl, hnj5, SL5.out, FAR5.out, HT5.out, LONE5.out, BEL5.out, EB.out.1, EB.out.2.1, EB.out.2.2⟩
                · as_aux_lemma =>
                    have hany := HANY.out
                    rw [decide_eq_false hav] at hany
                    have hdn := delL_none hany
                    have Hany := Lib.hid hany
                    have Hdn := Lib.hid hdn
                    have hnj5 : n ≤ j + 1 := by omega
                    clear hany hdn
                    go_wp2_with (go_at_call 10; refine (give_any HT3.out hwx).mono ?_; rintro e w5 ⟨rfl, hT5, hg5⟩; rw [Hany.out]; rw [Hdn.out] at hT5; have HT5 := Lib.hid (hT5.mono (Nat.le_succ j) (by omega)); have SL5 := Lib.hid (HS3.out.kept hg5 (fun a ha => (HFR.out a ha).2)); have LONE5 := HLN; have FAR5 := HFR; have BEL5 := Lib.hid (HB3.out.grown hg5 HB3.out.size (fun i hi => by cases hi; exact hbs)); have EB := Lib.hid (And.intro (hg5.cell e1 (by simp; omega)) (And.intro (hg5.cell e2 (by simp; omega)) (Nat.lt_of_lt_of_le hB3 hg5.size))); clear hT5 hg5 e0 e1 e2 e3)
                    go_meet
                    exact ⟨_, _, _, _, rfl, hnj5, SL5.out, FAR5.out, HT5.out, LONE5.out, BEL5.out, EB.out.1, EB.out.2.1, EB.out.2.2⟩
              · have hkb : (xk == 1) = false := by simp [hk]
                clear hk
                cases mv with
                | true =>
                  as_aux_lemma =>
                    have hmv := HMV.out
                    have hins := ins_map xs ⟨xk, d⟩
                    have htl : takeL (xs.map De.d) d = insL (xs.map De.d) d := by unfold takeL; rw [hmv]; rfl
                    have hlt4 := lone_take HLN.out d
                    rw [htl] at hlt4
                    have Hins := Lib.hid hins
                    have Htl := Lib.hid htl
                    have Hlt := Lib.hid hlt4
                    have Hmv := Lib.hid hmv
                    have hkl := kOf_le xs d.who
                    clear hmv htl hbA3 hins hlt4 HANY HAV HMV
                    go_wp2_with (go_at_call 11; refine (take_any HT3.out d hwx (by omega)).mono ?_; rintro e w4 ⟨rfl, hT4, hg4⟩; rw [Hmv.out]; rw [Htl.out] at hT4; have HT4 := Lib.hid hT4; have HS4 := Lib.hid (HS3.out.kept hg4 (fun a ha => (HFR.out a ha).2)); have HB4 := Lib.hid (HB3.out.grown hg4 HB3.out.size (fun i hi => by cases hi; exact hbs)); have HE := Lib.hid (And.intro (hg4.cell e0 (by simp; omega)) (And.intro (hg4.cell e1 (by simp; omega)) (And.intro (hg4.cell e2 (by simp; omega)) (And.intro (hg4.cell e3 (by simp; omega)) (Nat.lt_of_lt_of_le hB3 hg4.size))))); clear hT4 hg4 e0 e1 e2 e3)
                    go_loopw [12] (fun kk wz => ∃ k : Nat, k ≤ kOf xs d.who ∧ kk = .int .i64 k ∧ Below w4.heap.size w4 wz) (fun kk _ => kOf xs d.who - (intOf kk).toNat)
                    case atStart => exact ⟨0, Nat.zero_le _, rfl, Below.refl _ _⟩
                    case round =>
                      obtain ⟨k, hkk, rfl, hbz⟩ := hrel
                      have HSz := Lib.hid (HS4.out.below hbz)
                      obtain ⟨E0, E1, E2, E3, hB4⟩ := HE.out
                      have e0 := (hbz.cell hB4).trans E0
                      have e1 := (hbz.cell hB4).trans E1
                      have e2 := (hbz.cell hB4).trans E2
                      have e3 := (hbz.cell hB4).trans E3
                      have hBz := Nat.lt_of_lt_of_le hB4 hbz.size
                      clear E0 E1 E2 E3
                      by_cases hlk : k < kOf xs d.who
                      · obtain ⟨y, hy, hyw⟩ := kOf_lt hlk
                        have hkn : k < n := by omega
                        obtain ⟨b5, off5, hXs, hbs5, y', hy', f0, f1, f2, f3⟩ := HSz.out.rd.at hkn
                        have hyy : y' = y := by rw [hy] at hy'; cases hy'; rfl
                        subst hyy
                        subst hXs
                        have z1 : decide ((k : Int) < (n : Int)) = true := by rw [decide_eq_true_iff]; omega
                        have z2 : decide (y'.d.who < d.who) = true := by rw [decide_eq_true_iff]; exact hyw
                        have hk0 : (0 : Int) ≤ (k : Int) := by omega
                        have hk1 : (k : Int) < (n : Int) := by omega
                        clear hy hy' hyw
                        go_upto_region 33 with fail
                        go_quiet (fail)
                        go_wp2
                        go_roundw
                        case rel => exact ⟨k + 1, by omega, by go_num, below_drewN hbz _⟩
                        case measure => simp [intOf]; omega
                      · have hke : k = kOf xs d.who := by omega
                        clear hlk hkk
                        by_cases hkn : k < n
                        · obtain ⟨b5, off5, hXs, hbs5, y, hy, f0, f1, f2, f3⟩ := HSz.out.rd.at hkn
                          have hyw : ¬ y.d.who < d.who := kOf_end (by rw [← hke]; exact hy)
                          subst hXs
                          have z1 : decide ((k : Int) < (n : Int)) = true := by rw [decide_eq_true_iff]; omega
                          have z2 : decide (y.d.who < d.who) = false := by rw [decide_eq_false_iff_not]; exact hyw
                          have hk0 : (0 : Int) ≤ (k : Int) := by omega
                          have hk1 : (k : Int) < (n : Int) := by omega
                          clear hy hyw
                          have Z := Lib.hid hke
                          clear hke
                          go_upto_region 33 with fail
                          go_quiet (fail)
                          go_upto_region 35 with fail
                          have hbq := below_drewN hbz nq
                          have HSq := Lib.hid (HS4.out.below hbq)
                          have e0 := (hbq.cell hB4).trans HE.out.1
                          have e1 := (hbq.cell hB4).trans HE.out.2.1
                          have e2 := (hbq.cell hB4).trans HE.out.2.2.1
                          have e3 := (hbq.cell hB4).trans HE.out.2.2.2.1
                          have hBq := Nat.lt_of_lt_of_le hB4 hbq.size
                          have hcapq := HSq.out.cap
                          have hk0 : (0 : Int) ≤ (k : Int) := by omega
                          generalize wr.drewN nq = wq at *
                          have hk2 : (k : Int) ≤ (n : Int) := by omega
                          have hk3 : (k : Int) ≤ (c : Int) := by omega
                          have hnc : (n : Int) ≤ (c : Int) := by omega
                          have hck : ¬ c = k := by omega
                          go_region_held3 (fun w' => w'.cell? ⟨BX, 0, none⟩ = some (.int .i64 xk) ∧ w'.cell? ⟨BX, 1, none⟩ = some (.int .i64 d.who) ∧ w'.cell? ⟨BX, 2, none⟩ = some (.int .i64 d.ino) ∧ w'.cell? ⟨BX, 3, none⟩ = some (.bool d.al) ∧ Below wq.heap.size wq w')
                            (first | (refine ⟨?_, ?_, ?_, ?_, ?_⟩ <;> first | exact (Below.refl _ _).drew | go_keep) | exact keep4 hBq (by assumption) hb5 | exact keep4 hBq (by assumption) hb6 | exact keep4 hBq (by assumption) (news0 _ _))
                            ((first
                              | (refine step_app rfl _ _ rfl (some ⟨_, 0, none⟩) 1 [⟨xk, d⟩] rfl _ (n - k) _ (xs.drop k) rfl (by first | exact box_sl _ _ _ | exact (box_sl _ _ _).below ((Below.refl _ _).drew) | exact (box_sl _ _ _).below ((Below.refl _ _).drew.drew)) (by have hh := SlI.tail (HSq.out.below (by (first | exact And.right (And.right (And.right (And.right (by assumption)))) | exact (Below.refl _ _).drew | exact Below.refl _ _))) (show k ≤ n by omega); rw [if_neg hck] at hh; exact hh) (.inr ⟨_, _, rfl⟩) (by omega) ?_; intro X6 c6 w6 hS6 hX6 hb6)
                              | (refine step_app rfl _ _ rfl (some ⟨b5, off5, none⟩) k (xs.take k) rfl X6 (1 + (n - k)) c6 ([⟨xk, d⟩] ++ xs.drop k) rfl ((HSq.out.below (by (first | exact And.right (And.right (And.right (And.right (by assumption)))) | exact (Below.refl _ _).drew | exact Below.refl _ _))).take (by omega)) (hS6.rd) (hS6.at_.imp And.left (fun ⟨b', o', e, _⟩ => ⟨b', o', e⟩)) (by omega) ?_; intro X5 c5 w5 hS5 hX5 hb5)))
                          have hHeld5 : w5.cell? ⟨BX, 0, none⟩ = some (.int .i64 xk) ∧ w5.cell? ⟨BX, 1, none⟩ = some (.int .i64 d.who) ∧ w5.cell? ⟨BX, 2, none⟩ = some (.int .i64 d.ino) ∧ w5.cell? ⟨BX, 3, none⟩ = some (.bool d.al) ∧ Below wq.heap.size wq w5 := by assumption
                          have hH := hbq.trans (hHeld5.2.2.2.2.mono hbq.size)
                          have hgb : b < w4.heap.size := HT4.out.map.lt
                          have hysm : (xs.take k ++ ([(⟨xk, d⟩ : De)] ++ xs.drop k)).map De.d = insL (xs.map De.d) d := by rw [Z.out]; exact Hins.out
                          have HT5 := Lib.hid (hysm ▸ HT4.out.below hH : TabIs w5 t b (j + 1) ((xs.take k ++ ([(⟨xk, d⟩ : De)] ++ xs.drop k)).map De.d))
                          have LONE5 := Lib.hid (hysm ▸ Hlt.out : Lone ((xs.take k ++ ([(⟨xk, d⟩ : De)] ++ xs.drop k)).map De.d))
                          have hfar5 : ∀ a, X5 = some a → w.heap.size ≤ a.block ∧ a.block ≠ b := by
                            intro a ha
                            rcases hX5 with h | ⟨g5, h, hge5⟩
                            · exact HFR.out a (by rw [← h]; exact ha)
                            · rw [h] at ha; cases ha
                              have hs4 := HB4.out.size
                              have hs5 := hb6.size
                              have hs6 := hbq.size
                              simp at hs5
                              exact ⟨by dsimp only; omega, by dsimp only; omega⟩
                          have FAR5 := Lib.hid hfar5
                          have hS5b : SlI w5 X5 (k + (1 + (n - k))) c5 (xs.take k ++ ([(⟨xk, d⟩ : De)] ++ xs.drop k)) := hS5
                          have SL5 := Lib.hid hS5b
                          have BEL5 := Lib.hid (HB4.out.trans (hH.mono HB4.out.size))
                          have EB := Lib.hid (And.intro hHeld5.2.1 (And.intro hHeld5.2.2.1 (Nat.lt_of_lt_of_le hBq hHeld5.2.2.2.2.size)))
                          have hnj5 : (k + (1 + (n - k))) ≤ j + 1 := by omega
                          clear hS5 hS5b hX5 hb5 hb6 hS6 hX6 hH hHeld5 hfar5 hysm e0 e1 e2 e3 Hins HE HS4 HS3 HFR HSq HSz hbq hcapq HT3 HLN Hlt
                          generalize xs.take k ++ ([(⟨xk, d⟩ : De)] ++ xs.drop k) = ys at *
                          generalize (k + (1 + (n - k))) = n5 at *
                          go_wp2
                          go_meet
                          exact ⟨_, _, _, _, rfl, hnj5, SL5.out, FAR5.out, HT5.out, LONE5.out, BEL5.out, EB.out.1, EB.out.2.1, EB.out.2.2⟩
                        · have z1 : decide ((k : Int) < (n : Int)) = false := by rw [decide_eq_false_iff_not]; omega
                          have Z := Lib.hid hke
                          clear hke
                          go_upto_region 33 with fail
                          go_quiet (fail)
                          go_upto_region 35 with fail
                          have hbq := below_drewN hbz nq
                          have HSq := Lib.hid (HS4.out.below hbq)
                          have e0 := (hbq.cell hB4).trans HE.out.1
                          have e1 := (hbq.cell hB4).trans HE.out.2.1
                          have e2 := (hbq.cell hB4).trans HE.out.2.2.1
                          have e3 := (hbq.cell hB4).trans HE.out.2.2.2.1
                          have hBq := Nat.lt_of_lt_of_le hB4 hbq.size
                          have hcapq := HSq.out.cap
                          have hk0 : (0 : Int) ≤ (k : Int) := by omega
                          generalize wr.drewN nq = wq at *
                          rcases HSq.out.at_ with ⟨hXn, hcn⟩ | ⟨b5, off5, hXs, hbs5⟩
                          · subst hXn
                            subst hcn
                            have hn0 : n = 0 := by omega
                            subst hn0
                            have hk00 : k = 0 := by have := Z.out; omega
                            subst hk00
                            go_region_held3 (fun w' => w'.cell? ⟨BX, 0, none⟩ = some (.int .i64 xk) ∧ w'.cell? ⟨BX, 1, none⟩ = some (.int .i64 d.who) ∧ w'.cell? ⟨BX, 2, none⟩ = some (.int .i64 d.ino) ∧ w'.cell? ⟨BX, 3, none⟩ = some (.bool d.al) ∧ Below wq.heap.size wq w')
                              (first | (refine ⟨?_, ?_, ?_, ?_, ?_⟩ <;> first | exact (Below.refl _ _).drew | go_keep) | exact keep4 hBq (by assumption) hb5 | exact keep4 hBq (by assumption) hb6 | exact keep4 hBq (by assumption) (news0 _ _))
                              ((first
                                | (refine step_app rfl _ _ rfl (some ⟨_, 0, none⟩) 1 [⟨xk, d⟩] rfl _ (0 - 0) _ (xs.drop 0) rfl (by first | exact box_sl _ _ _ | exact (box_sl _ _ _).below ((Below.refl _ _).drew) | exact (box_sl _ _ _).below ((Below.refl _ _).drew.drew)) (deeds_nil rfl hnl 0) (.inl rfl) (by omega) ?_; intro X6 c6 w6 hS6 hX6 hb6)
                                | (refine step_app rfl _ _ rfl none 0 (xs.take 0) rfl X6 (1 + (0 - 0)) c6 ([⟨xk, d⟩] ++ xs.drop 0) rfl ((HSq.out.below (by (first | exact And.right (And.right (And.right (And.right (by assumption)))) | exact (Below.refl _ _).drew | exact Below.refl _ _))).take (by omega)) (hS6.rd) (hS6.at_.imp And.left (fun ⟨b', o', e, _⟩ => ⟨b', o', e⟩)) (by omega) ?_; intro X5 c5 w5 hS5 hX5 hb5)))
                            have hHeld5 : w5.cell? ⟨BX, 0, none⟩ = some (.int .i64 xk) ∧ w5.cell? ⟨BX, 1, none⟩ = some (.int .i64 d.who) ∧ w5.cell? ⟨BX, 2, none⟩ = some (.int .i64 d.ino) ∧ w5.cell? ⟨BX, 3, none⟩ = some (.bool d.al) ∧ Below wq.heap.size wq w5 := by assumption
                            have hH := hbq.trans (hHeld5.2.2.2.2.mono hbq.size)
                            have hgb : b < w4.heap.size := HT4.out.map.lt
                            have hysm : (xs.take 0 ++ ([(⟨xk, d⟩ : De)] ++ xs.drop 0)).map De.d = insL (xs.map De.d) d := by rw [Z.out]; exact Hins.out
                            have HT5 := Lib.hid (hysm ▸ HT4.out.below hH : TabIs w5 t b (j + 1) ((xs.take 0 ++ ([(⟨xk, d⟩ : De)] ++ xs.drop 0)).map De.d))
                            have LONE5 := Lib.hid (hysm ▸ Hlt.out : Lone ((xs.take 0 ++ ([(⟨xk, d⟩ : De)] ++ xs.drop 0)).map De.d))
                            have hfar5 : ∀ a, X5 = some a → w.heap.size ≤ a.block ∧ a.block ≠ b := by
                              intro a ha
                              rcases hX5 with h | ⟨g5, h, hge5⟩
                              · rw [h] at ha; cases ha
                              · rw [h] at ha; cases ha
                                have hs4 := HB4.out.size
                                have hs5 := hb6.size
                                have hs6 := hbq.size
                                simp at hs5
                                exact ⟨by dsimp only; omega, by dsimp only; omega⟩
                            have FAR5 := Lib.hid hfar5
                            have hS5b : SlI w5 X5 1 c5 (xs.take 0 ++ ([(⟨xk, d⟩ : De)] ++ xs.drop 0)) := hS5
                            have SL5 := Lib.hid hS5b
                            have BEL5 := Lib.hid (HB4.out.trans (hH.mono HB4.out.size))
                            have EB := Lib.hid (And.intro hHeld5.2.1 (And.intro hHeld5.2.2.1 (Nat.lt_of_lt_of_le hBq hHeld5.2.2.2.2.size)))
                            have hnj5 : 1 ≤ j + 1 := by omega
                            clear hS5 hS5b hX5 hb5 hb6 hS6 hX6 hH hHeld5 hfar5 hysm e0 e1 e2 e3 Hins HE HS4 HS3 HFR HSq HSz hbq hcapq HT3 HLN Hlt
                            generalize xs.take 0 ++ ([(⟨xk, d⟩ : De)] ++ xs.drop 0) = ys at *
                            go_wp2
                            go_meet
                            exact ⟨_, _, _, _, rfl, hnj5, SL5.out, FAR5.out, HT5.out, LONE5.out, BEL5.out, EB.out.1, EB.out.2.1, EB.out.2.2⟩
                          · subst hXs
                            have hkn2 : k ≤ n := by have := Z.out; omega
                            have hk2 : (k : Int) ≤ (n : Int) := by omega
                            have hk3 : (k : Int) ≤ (c : Int) := by omega
                            have hnc : (n : Int) ≤ (c : Int) := by omega
                            by_cases hck : c = k
                            · have Hck := Lib.hid hck
                              have hck2 : (c = k) = True := eq_true hck
                              clear hck
                              go_region_held3 (fun w' => w'.cell? ⟨BX, 0, none⟩ = some (.int .i64 xk) ∧ w'.cell? ⟨BX, 1, none⟩ = some (.int .i64 d.who) ∧ w'.cell? ⟨BX, 2, none⟩ = some (.int .i64 d.ino) ∧ w'.cell? ⟨BX, 3, none⟩ = some (.bool d.al) ∧ Below wq.heap.size wq w')
                                (first | (refine ⟨?_, ?_, ?_, ?_, ?_⟩ <;> first | exact (Below.refl _ _).drew | go_keep) | exact keep4 hBq (by assumption) hb5 | exact keep4 hBq (by assumption) hb6 | exact keep4 hBq (by assumption) (news0 _ _))
                                ((first
                                  | (refine step_app rfl _ _ rfl (some ⟨_, 0, none⟩) 1 [⟨xk, d⟩] rfl _ (n - k) _ (xs.drop k) rfl (by first | exact box_sl _ _ _ | exact (box_sl _ _ _).below ((Below.refl _ _).drew) | exact (box_sl _ _ _).below ((Below.refl _ _).drew.drew)) (by have hh := SlI.tail (HSq.out.below (by (first | exact And.right (And.right (And.right (And.right (by assumption)))) | exact (Below.refl _ _).drew | exact Below.refl _ _))) (show k ≤ n by omega); rw [if_pos Hck.out] at hh; exact hh) (.inr ⟨_, _, rfl⟩) (by omega) ?_; intro X6 c6 w6 hS6 hX6 hb6)
                                  | (refine step_app rfl _ _ rfl (some ⟨b5, off5, none⟩) k (xs.take k) rfl X6 (1 + (n - k)) c6 ([⟨xk, d⟩] ++ xs.drop k) rfl ((HSq.out.below (by (first | exact And.right (And.right (And.right (And.right (by assumption)))) | exact (Below.refl _ _).drew | exact Below.refl _ _))).take (by omega)) (hS6.rd) (hS6.at_.imp And.left (fun ⟨b', o', e, _⟩ => ⟨b', o', e⟩)) (by omega) ?_; intro X5 c5 w5 hS5 hX5 hb5)))
                              have hHeld5 : w5.cell? ⟨BX, 0, none⟩ = some (.int .i64 xk) ∧ w5.cell? ⟨BX, 1, none⟩ = some (.int .i64 d.who) ∧ w5.cell? ⟨BX, 2, none⟩ = some (.int .i64 d.ino) ∧ w5.cell? ⟨BX, 3, none⟩ = some (.bool d.al) ∧ Below wq.heap.size wq w5 := by assumption
                              have hH := hbq.trans (hHeld5.2.2.2.2.mono hbq.size)
                              have hgb : b < w4.heap.size := HT4.out.map.lt
                              have hysm : (xs.take k ++ ([(⟨xk, d⟩ : De)] ++ xs.drop k)).map De.d = insL (xs.map De.d) d := by rw [Z.out]; exact Hins.out
                              have HT5 := Lib.hid (hysm ▸ HT4.out.below hH : TabIs w5 t b (j + 1) ((xs.take k ++ ([(⟨xk, d⟩ : De)] ++ xs.drop k)).map De.d))
                              have LONE5 := Lib.hid (hysm ▸ Hlt.out : Lone ((xs.take k ++ ([(⟨xk, d⟩ : De)] ++ xs.drop k)).map De.d))
                              have hfar5 : ∀ a, X5 = some a → w.heap.size ≤ a.block ∧ a.block ≠ b := by
                                intro a ha
                                rcases hX5 with h | ⟨g5, h, hge5⟩
                                · exact HFR.out a (by rw [← h]; exact ha)
                                · rw [h] at ha; cases ha
                                  have hs4 := HB4.out.size
                                  have hs5 := hb6.size
                                  have hs6 := hbq.size
                                  simp at hs5
                                  exact ⟨by dsimp only; omega, by dsimp only; omega⟩
                              have FAR5 := Lib.hid hfar5
                              have hS5b : SlI w5 X5 (k + (1 + (n - k))) c5 (xs.take k ++ ([(⟨xk, d⟩ : De)] ++ xs.drop k)) := hS5
                              have SL5 := Lib.hid hS5b
                              have BEL5 := Lib.hid (HB4.out.trans (hH.mono HB4.out.size))
                              have EB := Lib.hid (And.intro hHeld5.2.1 (And.intro hHeld5.2.2.1 (Nat.lt_of_lt_of_le hBq hHeld5.2.2.2.2.size)))
                              have hnj5 : (k + (1 + (n - k))) ≤ j + 1 := by omega
                              clear hS5 hS5b hX5 hb5 hb6 hS6 hX6 hH hHeld5 hfar5 hysm e0 e1 e2 e3 Hins HE HS4 HS3 HFR HSq HSz hbq hcapq HT3 HLN Hlt
                              generalize xs.take k ++ ([(⟨xk, d⟩ : De)] ++ xs.drop k) = ys at *
                              generalize (k + (1 + (n - k))) = n5 at *
                              go_wp2
                              go_meet
                              exact ⟨_, _, _, _, rfl, hnj5, SL5.out, FAR5.out, HT5.out, LONE5.out, BEL5.out, EB.out.1, EB.out.2.1, EB.out.2.2⟩
                            · go_region_held3 (fun w' => w'.cell? ⟨BX, 0, none⟩ = some (.int .i64 xk) ∧ w'.cell? ⟨BX, 1, none⟩ = some (.int .i64 d.who) ∧ w'.cell? ⟨BX, 2, none⟩ = some (.int .i64 d.ino) ∧ w'.cell? ⟨BX, 3, none⟩ = some (.bool d.al) ∧ Below wq.heap.size wq w')
                                (first | (refine ⟨?_, ?_, ?_, ?_, ?_⟩ <;> first | exact (Below.refl _ _).drew | go_keep) | exact keep4 hBq (by assumption) hb5 | exact keep4 hBq (by assumption) hb6 | exact keep4 hBq (by assumption) (news0 _ _))
                                ((first
                                  | (refine step_app rfl _ _ rfl (some ⟨_, 0, none⟩) 1 [⟨xk, d⟩] rfl _ (n - k) _ (xs.drop k) rfl (by first | exact box_sl _ _ _ | exact (box_sl _ _ _).below ((Below.refl _ _).drew) | exact (box_sl _ _ _).below ((Below.refl _ _).drew.drew)) (by have hh := SlI.tail (HSq.out.below (by (first | exact And.right (And.right (And.right (And.right (by assumption)))) | exact (Below.refl _ _).drew | exact Below.refl _ _))) (show k ≤ n by omega); rw [if_neg hck] at hh; exact hh) (.inr ⟨_, _, rfl⟩) (by omega) ?_; intro X6 c6 w6 hS6 hX6 hb6)
                                  | (refine step_app rfl _ _ rfl (some ⟨b5, off5, none⟩) k (xs.take k) rfl X6 (1 + (n - k)) c6 ([⟨xk, d⟩] ++ xs.drop k) rfl ((HSq.out.below (by (first | exact And.right (And.right (And.right (And.right (by assumption)))) | exact (Below.refl _ _).drew | exact Below.refl _ _))).take (by omega)) (hS6.rd) (hS6.at_.imp And.left (fun ⟨b', o', e, _⟩ => ⟨b', o', e⟩)) (by omega) ?_; intro X5 c5 w5 hS5 hX5 hb5)))
                              have hHeld5 : w5.cell? ⟨BX, 0, none⟩ = some (.int .i64 xk) ∧ w5.cell? ⟨BX, 1, none⟩ = some (.int .i64 d.who) ∧ w5.cell? ⟨BX, 2, none⟩ = some (.int .i64 d.ino) ∧ w5.cell? ⟨BX, 3, none⟩ = some (.bool d.al) ∧ Below wq.heap.size wq w5 := by assumption
                              have hH := hbq.trans (hHeld5.2.2.2.2.mono hbq.size)
                              have hgb : b < w4.heap.size := HT4.out.map.lt
                              have hysm : (xs.take k ++ ([(⟨xk, d⟩ : De)] ++ xs.drop k)).map De.d = insL (xs.map De.d) d := by rw [Z.out]; exact Hins.out
                              have HT5 := Lib.hid (hysm ▸ HT4.out.below hH : TabIs w5 t b (j + 1) ((xs.take k ++ ([(⟨xk, d⟩ : De)] ++ xs.drop k)).map De.d))
                              have LONE5 := Lib.hid (hysm ▸ Hlt.out : Lone ((xs.take k ++ ([(⟨xk, d⟩ : De)] ++ xs.drop k)).map De.d))
                              have hfar5 : ∀ a, X5 = some a → w.heap.size ≤ a.block ∧ a.block ≠ b := by
                                intro a ha
                                rcases hX5 with h | ⟨g5, h, hge5⟩
                                · exact HFR.out a (by rw [← h]; exact ha)
                                · rw [h] at ha; cases ha
                                  have hs4 := HB4.out.size
                                  have hs5 := hb6.size
                                  have hs6 := hbq.size
                                  simp at hs5
                                  exact ⟨by dsimp only; omega, by dsimp only; omega⟩
                              have FAR5 := Lib.hid hfar5
                              have hS5b : SlI w5 X5 (k + (1 + (n - k))) c5 (xs.take k ++ ([(⟨xk, d⟩ : De)] ++ xs.drop k)) := hS5
                              have SL5 := Lib.hid hS5b
                              have BEL5 := Lib.hid (HB4.out.trans (hH.mono HB4.out.size))
                              have EB := Lib.hid (And.intro hHeld5.2.1 (And.intro hHeld5.2.2.1 (Nat.lt_of_lt_of_le hBq hHeld5.2.2.2.2.size)))
                              have hnj5 : (k + (1 + (n - k))) ≤ j + 1 := by omega
                              clear hS5 hS5b hX5 hb5 hb6 hS6 hX6 hH hHeld5 hfar5 hysm e0 e1 e2 e3 Hins HE HS4 HS3 HFR HSq HSz hbq hcapq HT3 HLN Hlt
                              generalize xs.take k ++ ([(⟨xk, d⟩ : De)] ++ xs.drop k) = ys at *
                              generalize (k + (1 + (n - k))) = n5 at *
                              go_wp2
                              go_meet
                              exact ⟨_, _, _, _, rfl, hnj5, SL5.out, FAR5.out, HT5.out, LONE5.out, BEL5.out, EB.out.1, EB.out.2.1, EB.out.2.2⟩
                | false =>
                  as_aux_lemma =>
                    have hmv := HMV.out
                    have htl : takeL (xs.map De.d) d = xs.map De.d := by unfold takeL; rw [hmv]; rfl
                    have Hmv := Lib.hid hmv
                    have Htl := Lib.hid htl
                    have hnj5 : n ≤ j + 1 := by omega
                    clear hmv htl
                    go_wp2_with (go_at_call 11; refine (take_any HT3.out d hwx (by omega)).mono ?_; rintro e w5 ⟨rfl, hT5, hg5⟩; rw [Hmv.out]; rw [Htl.out] at hT5; have HT5 := Lib.hid hT5; have SL5 := Lib.hid (HS3.out.kept hg5 (fun a ha => (HFR.out a ha).2)); have LONE5 := HLN; have FAR5 := HFR; have BEL5 := Lib.hid (HB3.out.grown hg5 HB3.out.size (fun i hi => by cases hi; exact hbs)); have EB := Lib.hid (And.intro (hg5.cell e1 (by simp; omega)) (And.intro (hg5.cell e2 (by simp; omega)) (Nat.lt_of_lt_of_le hB3 hg5.size))); clear hT5 hg5 e0 e1 e2 e3)
                    go_meet
                    exact ⟨_, _, _, _, rfl, hnj5, SL5.out, FAR5.out, HT5.out, LONE5.out, BEL5.out, EB.out.1, EB.out.2.1, EB.out.2.2⟩
            case rest =>
              obtain ⟨ys, X5, n5, c5, rfl, hnj5, hSL, hfar, hT5, hlo, hbel, hF1, hF2, hF3⟩ := hcut
              have SL5 := Lib.hid hSL
              have FAR5 := Lib.hid hfar
              have HT5 := Lib.hid hT5
              have LONE5 := Lib.hid hlo
              have BEL5 := Lib.hid hbel
              have EB := Lib.hid (And.intro hF1 (And.intro hF2 hF3))
              clear hSL hfar hT5 hlo hbel hF1 hF2 hF3 HMV HAV HANY HT3 HS3 HB3 e0 e1 e2 e3 HLN HFR
              as_aux_lemma =>
                have hyl : ys.length = n5 := SL5.out.rd.1
                obtain ⟨i0, hi0, hz0', hz1, hz2⟩ := info_parts Try.info3
                go_wp2
                go_loopw [7, 9, 131] (fun a u k wz => ∃ i : Nat, i ≤ n5 ∧ k = .int .i64 i ∧ a = .int .i64 (atOf ys d.who i) ∧ wz.ownsRow wc.heap.size 3 1 u (usL ((ys.take i).map De.d) d.ino).length ((usL ((ys.take i).map De.d) d.ino).map (Value.int .i64)) ∧ Below wc.heap.size wc wz) (fun _ _ k _ => n5 - (intOf k).toNat)
                case atStart => exact ⟨0, Nat.zero_le _, rfl, rfl, World.ownsRow_nil _ _ _ _, Below.refl _ _⟩
                case round =>
                  obtain ⟨i, hin, rfl, rfl, hown, hbz⟩ := hrel
                  obtain ⟨F1, F2, hB5⟩ := EB.out
                  have hszz := hbz.size
                  have hul := usL_len ((ys.take i).map De.d) d.ino
                  rw [List.length_map, List.length_take] at hul
                  have Hown := Lib.hid hown
                  by_cases hli : i < n5
                  · obtain ⟨g5, off5, hXq, hgl5, y, hy, f0, f1, f2, f3⟩ := (SL5.out.below hbz).rd.at hli
                    subst hXq
                    clear hown
                    by_cases hi : y.d.ino = d.ino
                    · by_cases hw : y.d.who = d.who
                      · have hat2 : atOf ys d.who (i + 1) = (i : Int) := by rw [atOf_at hy]; exact if_pos hw
                        have hus2 : usL ((ys.take (i + 1)).map De.d) d.ino = usL ((ys.take i).map De.d) d.ino ++ [y.d.who] := by rw [usL_map _ _ _ hy]; rw [if_pos hi]
                        have hwb : (y.d.who == d.who) = true := by simp [hw]
                        have hib : (y.d.ino == d.ino) = true := by simp [hi]
                        have Hat := Lib.hid hat2
                        have Hus := Lib.hid hus2
                        clear hat2 hus2 hy hw hi
                        generalize usL ((ys.take i).map De.d) d.ino = out at *
                        have hbz0 : Below wc.heap.size wc (wr.alloc (.cells #[.int .i64 y.k, .int .i64 y.d.who, .int .i64 y.d.ino, .bool y.d.al] 27)) := hbz.alloc hbz.size _
                        have g2 := (hbz0.cell hB5).trans F2
                        generalize atOf ys d.who i = av2 at *
                        go_wp2_with (at_builtin; refine wpList_append_own _ rfl _ _ 28 rfl wc.heap.size 3 i0 (.int .i64 0) 1 8 Try.underlying28 hi0 hz0' hz1 hz2 rfl (by decide) _ out.length (out.map (Value.int .i64)) rfl ((Hown.out.alloc _).alloc _) ⟨wr.heap.size + 1, 0, none⟩ 1 1 [.int .i64 y.d.who] rfl rfl ?c1 ?c2 ?c3 ?c4 ?c5 ?_)
                        case c1 => intro j u hu; first | exact hu | (rcases j with _ | j; (cases hu; rw [add_lit']; go_simp); (cases hu))
                        case c2 => intro u hu; rcases List.mem_cons.1 hu with rfl | hu; rfl; cases hu
                        case c3 => unfold maxLen; omega
                        case c4 => omega
                        case c5 => first | omega | (simp; omega)
                        intro v6 w6 hown6 hgrow6 _
                        have hO := ((Hown.out.alloc (.cells #[.int .i64 y.k, .int .i64 y.d.who, .int .i64 y.d.ino, .bool y.d.al] 27)).alloc (.cells #[.int .i64 y.d.who] 3))
                        have hsz6 := hbz.size
                        have hne : ∀ q, q < wc.heap.size → some q ≠ (u9 : Value).ownBlock := fun q hq e => by have := (Hown.out.lt q e.symm).1; omega
                        have hne2 : some wr.heap.size ≠ (u9 : Value).ownBlock := fun e => by have := (Hown.out.lt _ e.symm).2; omega
                        have hbz2 : Below wc.heap.size wc ((wr.alloc (.cells #[.int .i64 y.k, .int .i64 y.d.who, .int .i64 y.d.ino, .bool y.d.al] 27)).alloc (.cells #[.int .i64 y.d.who] 3)) := (hbz.alloc hbz.size _).alloc (Nat.le_trans hbz.size (by simp)) _
                        have hbz6 := hbz2.grown hgrow6 hbz2.size (fun k hk => (hO.lt k hk).1)
                        have g1 := (hbz6.cell hB5).trans F1
                        have k1 : w6.cell? ⟨wr.heap.size, 1, none⟩ = some (.int .i64 y.d.who) := hgrow6.cell (by go_simp) hne2
                        have Hown6 := Lib.hid (nums_snoc hown6)
                        clear hown6 hgrow6 hO hne hne2 hbz2
                        go_wp2
                        go_roundw
                        case rel => exact ⟨i + 1, by omega, by go_num, by rw [Hat.out], by rw [Hus.out]; exact Hown6.out, hbz6⟩
                        case measure => simp [intOf]; omega
                      · have hat2 : atOf ys d.who (i + 1) = atOf ys d.who i := by rw [atOf_at hy]; exact if_neg hw
                        have hus2 : usL ((ys.take (i + 1)).map De.d) d.ino = usL ((ys.take i).map De.d) d.ino ++ [y.d.who] := by rw [usL_map _ _ _ hy]; rw [if_pos hi]
                        have hwb : (y.d.who == d.who) = false := by simp [hw]
                        have hib : (y.d.ino == d.ino) = true := by simp [hi]
                        have Hat := Lib.hid hat2
                        have Hus := Lib.hid hus2
                        clear hat2 hus2 hy hw hi
                        generalize usL ((ys.take i).map De.d) d.ino = out at *
                        have hbz0 : Below wc.heap.size wc (wr.alloc (.cells #[.int .i64 y.k, .int .i64 y.d.who, .int .i64 y.d.ino, .bool y.d.al] 27)) := hbz.alloc hbz.size _
                        have g2 := (hbz0.cell hB5).trans F2
                        generalize atOf ys d.who i = av2 at *
                        go_wp2_with (at_builtin; refine wpList_append_own _ rfl _ _ 28 rfl wc.heap.size 3 i0 (.int .i64 0) 1 8 Try.underlying28 hi0 hz0' hz1 hz2 rfl (by decide) _ out.length (out.map (Value.int .i64)) rfl ((Hown.out.alloc _).alloc _) ⟨wr.heap.size + 1, 0, none⟩ 1 1 [.int .i64 y.d.who] rfl rfl ?c1 ?c2 ?c3 ?c4 ?c5 ?_)
                        case c1 => intro j u hu; first | exact hu | (rcases j with _ | j; (cases hu; rw [add_lit']; go_simp); (cases hu))
                        case c2 => intro u hu; rcases List.mem_cons.1 hu with rfl | hu; rfl; cases hu
                        case c3 => unfold maxLen; omega
                        case c4 => omega
                        case c5 => first | omega | (simp; omega)
                        intro v6 w6 hown6 hgrow6 _
                        have hO := ((Hown.out.alloc (.cells #[.int .i64 y.k, .int .i64 y.d.who, .int .i64 y.d.ino, .bool y.d.al] 27)).alloc (.cells #[.int .i64 y.d.who] 3))
                        have hsz6 := hbz.size
                        have hne : ∀ q, q < wc.heap.size → some q ≠ (u9 : Value).ownBlock := fun q hq e => by have := (Hown.out.lt q e.symm).1; omega
                        have hne2 : some wr.heap.size ≠ (u9 : Value).ownBlock := fun e => by have := (Hown.out.lt _ e.symm).2; omega
                        have hbz2 : Below wc.heap.size wc ((wr.alloc (.cells #[.int .i64 y.k, .int .i64 y.d.who, .int .i64 y.d.ino, .bool y.d.al] 27)).alloc (.cells #[.int .i64 y.d.who] 3)) := (hbz.alloc hbz.size _).alloc (Nat.le_trans hbz.size (by simp)) _
                        have hbz6 := hbz2.grown hgrow6 hbz2.size (fun k hk => (hO.lt k hk).1)
                        have g1 := (hbz6.cell hB5).trans F1
                        have k1 : w6.cell? ⟨wr.heap.size, 1, none⟩ = some (.int .i64 y.d.who) := hgrow6.cell (by go_simp) hne2
                        have Hown6 := Lib.hid (nums_snoc hown6)
                        clear hown6 hgrow6 hO hne hne2 hbz2
                        go_wp2
                        go_roundw
                        case rel => exact ⟨i + 1, by omega, by go_num, by rw [Hat.out], by rw [Hus.out]; exact Hown6.out, hbz6⟩
                        case measure => simp [intOf]; omega
                    · by_cases hw : y.d.who = d.who
                      · have hat2 : atOf ys d.who (i + 1) = (i : Int) := by rw [atOf_at hy]; exact if_pos hw
                        have hus2 : usL ((ys.take (i + 1)).map De.d) d.ino = usL ((ys.take i).map De.d) d.ino ++ [] := by rw [usL_map _ _ _ hy]; rw [if_neg hi]
                        have hwb : (y.d.who == d.who) = true := by simp [hw]
                        have hib : (y.d.ino == d.ino) = false := by simp [hi]
                        have Hat := Lib.hid hat2
                        have Hus := Lib.hid hus2
                        clear hat2 hus2 hy hw hi
                        generalize usL ((ys.take i).map De.d) d.ino = out at *
                        generalize atOf ys d.who i = av2 at *
                        have hbz6 : Below wc.heap.size wc (wr.alloc (.cells #[.int .i64 y.k, .int .i64 y.d.who, .int .i64 y.d.ino, .bool y.d.al] 27)) := hbz.alloc hbz.size _
                        have g1 := (hbz6.cell hB5).trans F1
                        have g2 := (hbz6.cell hB5).trans F2
                        go_wp2
                        go_roundw
                        case rel => exact ⟨i + 1, by omega, by go_num, by rw [Hat.out], by rw [Hus.out, List.append_nil]; exact Hown.out.alloc _, hbz6⟩
                        case measure => simp [intOf]; omega
                      · have hat2 : atOf ys d.who (i + 1) = atOf ys d.who i := by rw [atOf_at hy]; exact if_neg hw
                        have hus2 : usL ((ys.take (i + 1)).map De.d) d.ino = usL ((ys.take i).map De.d) d.ino ++ [] := by rw [usL_map _ _ _ hy]; rw [if_neg hi]
                        have hwb : (y.d.who == d.who) = false := by simp [hw]
                        have hib : (y.d.ino == d.ino) = false := by simp [hi]
                        have Hat := Lib.hid hat2
                        have Hus := Lib.hid hus2
                        clear hat2 hus2 hy hw hi
                        generalize usL ((ys.take i).map De.d) d.ino = out at *
                        generalize atOf ys d.who i = av2 at *
                        have hbz6 : Below wc.heap.size wc (wr.alloc (.cells #[.int .i64 y.k, .int .i64 y.d.who, .int .i64 y.d.ino, .bool y.d.al] 27)) := hbz.alloc hbz.size _
                        have g1 := (hbz6.cell hB5).trans F1
                        have g2 := (hbz6.cell hB5).trans F2
                        go_wp2
                        go_roundw
                        case rel => exact ⟨i + 1, by omega, by go_num, by rw [Hat.out], by rw [Hus.out, List.append_nil]; exact Hown.out.alloc _, hbz6⟩
                        case measure => simp [intOf]; omega
                  · have e : i = n5 := by omega
                    have hge2 : ¬ (i : Int) < (n5 : Nat) := by omega
                    have et : ys.take i = ys := List.take_of_length_le (by omega)
                    rw [et] at hown hul
                    have hA : atOf ys d.who i = atE ys d.who := by unfold atE; rw [e, hyl]
                    rw [hA]
                    obtain ⟨Xu, cu, rfl⟩ := own_slice hown
                    have HIz0 := ints_of_nums rfl hown
                    have hany5 := atE_any ys d.who
                    have hbA5 := atOf_bounds ys d.who ys.length
                    have hbA6 : -1 ≤ atE ys d.who ∧ atE ys d.who < ys.length := hbA5
                    clear hA e hin hli hown Hown et hbA5
                    by_cases hA5 : 0 ≤ atE ys d.who
                    · obtain ⟨q, hq⟩ : ∃ q : Nat, atE ys d.who = q := ⟨(atE ys d.who).toNat, by omega⟩
                      obtain ⟨y, hy, hyw⟩ := (atOf_find ys d.who ys.length (Nat.le_refl _)).1 q hq
                      have hfind : findL (ys.map De.d) d.who = y.d := by rw [← hyw]; exact find_at HT5.out.ris hy
                      have hqn : q < n5 := by rw [← hyl]; exact (List.getElem?_eq_some_iff.1 hy).1
                      rw [hq] at hany5 hbA6 hA5 ⊢
                      obtain ⟨gy, oy, hXe, hgy, y', hy', k0, k1, k2, k3⟩ := (SL5.out.below hbz).rd.at hqn
                      have hyy : y' = y := by rw [hy] at hy'; cases hy'; rfl
                      subst hyy
                      subst hXe
                      rw [decide_eq_true (by omega : (0 : Int) ≤ (q : Int))] at hany5
                      have CHs := Lib.hid (has_any (HT5.out.below hbz) hwx)
                      rw [hfind, hany5] at CHs
                      have hq0 : (0 : Int) ≤ (q : Int) := by omega
                      have hq1 : (q : Int) < (n5 : Nat) := by omega
                      clear hy hyw hfind hy' hq hany5
                      have CR5 := Lib.hid (lone_right LONE5.out HT5.out.ris)
                      have HIz := Lib.hid HIz0
                      have g1 := (hbz.cell hB5).trans F1
                      have g2 := (hbz.cell hB5).trans F2
                      have HTz := Lib.hid (HT5.out.below hbz)
                      have hBz := Nat.lt_of_lt_of_le hB5 hbz.size
                      have hfe : ((ys.map De.d).length = 0) = (n5 = 0) := by rw [List.length_map, hyl]
                      clear HIz0 F1 F2
                      by_cases hn0 : n5 = 0
                      · omega
                      · have hfr : decide (((ys.map De.d).length) = 0) = false := by rw [List.length_map, hyl]; simp [hn0]
                        have hn1 : (((n5 : Nat) : Int) == 0) = false := by simp [hn0]
                        have HF := Lib.hid hfr
                        have hn2 : ¬ ((n5 : Nat) : Int) = 0 := by omega
                        clear hfr hn0 hfe
                        go_wp2_with (first
                          | (go_at_call 12; refine (CHs.out).mono ?_; rintro e wa ⟨rfl, hba⟩; have k2 := (hba.cell hgy).trans k2; have k3 := (hba.cell hgy).trans k3; have g2 := (hba.cell hBz).trans g2; have hz6 := hba; clear hba)
                          | (go_at_call 14; refine (users_any (HTz.out.below hz6) d.ino).mono ?_; rintro e wb ⟨vb, rfl, hownb, hbb⟩; obtain ⟨Xb, cb, rfl⟩ := own_slice hownb; have HIb := Lib.hid (ints_of_nums rfl hownb); have hz7 := hz6.trans (hbb.mono hz6.size); clear hownb hbb)
                          | (go_at_call 13; refine (sameints_any _ _ HIb.out (HIz.out.below hz7) (by unfold maxLen; omega) (by unfold maxLen; omega)).mono ?_; rintro e wc ⟨rfl, hbc⟩; rw [decide_eq_true rfl]; have hz8 := hz7.trans (hbc.mono hz7.size); clear hbc)
                          | (go_at_call 15; refine (free_any (HTz.out.below hz8)).mono ?_; rintro e wd ⟨rfl, hbd⟩; rw [HF.out]; have hz9 := hz8.trans (hbd.mono hz8.size); clear hbd)
                          | (go_at_call 16; refine (rightT_any (HTz.out.below hz9) CR5.out).mono ?_; rintro e we ⟨rfl, hbe⟩; have hz10 := hz9.trans (hbe.mono hz9.size); clear hbe))
                        go_roundw
                        case rel => exact ⟨j + 1, ys, _, n5, c5, by omega, by go_num, rfl, ⟨(SL5.out.below hbz).below hz10, FAR5.out, HTz.out.below hz10, LONE5.out, BEL5.out.trans ((hbz.trans (hz10.mono hbz.size)).mono BEL5.out.size)⟩⟩
                        case measure => simp [intOf]; omega
                    · rw [decide_eq_false hA5] at hany5
                      have CHs := Lib.hid (has_any (HT5.out.below hbz) hwx)
                      rw [hany5] at CHs
                      clear hany5
                      generalize findL (ys.map De.d) d.who = fd at *
                      have CR5 := Lib.hid (lone_right LONE5.out HT5.out.ris)
                      have HIz := Lib.hid HIz0
                      have g1 := (hbz.cell hB5).trans F1
                      have g2 := (hbz.cell hB5).trans F2
                      have HTz := Lib.hid (HT5.out.below hbz)
                      have hBz := Nat.lt_of_lt_of_le hB5 hbz.size
                      have hfe : ((ys.map De.d).length = 0) = (n5 = 0) := by rw [List.length_map, hyl]
                      clear HIz0 F1 F2
                      by_cases hn0 : n5 = 0
                      · have hfr : decide (((ys.map De.d).length) = 0) = true := by rw [List.length_map, hyl]; simp [hn0]
                        have hn1 : (((n5 : Nat) : Int) == 0) = true := by simp [hn0]
                        have HF := Lib.hid hfr
                        have hn2 : ((n5 : Nat) : Int) = 0 := by omega
                        clear hfr hn0 hfe
                        go_wp2_with (first
                          | (go_at_call 12; refine (CHs.out).mono ?_; rintro e wa ⟨rfl, hba⟩; have g2 := (hba.cell hBz).trans g2; have hz6 := hba; clear hba)
                          | (go_at_call 14; refine (users_any (HTz.out.below hz6) d.ino).mono ?_; rintro e wb ⟨vb, rfl, hownb, hbb⟩; obtain ⟨Xb, cb, rfl⟩ := own_slice hownb; have HIb := Lib.hid (ints_of_nums rfl hownb); have hz7 := hz6.trans (hbb.mono hz6.size); clear hownb hbb)
                          | (go_at_call 13; refine (sameints_any _ _ HIb.out (HIz.out.below hz7) (by unfold maxLen; omega) (by unfold maxLen; omega)).mono ?_; rintro e wc ⟨rfl, hbc⟩; rw [decide_eq_true rfl]; have hz8 := hz7.trans (hbc.mono hz7.size); clear hbc)
                          | (go_at_call 15; refine (free_any (HTz.out.below hz8)).mono ?_; rintro e wd ⟨rfl, hbd⟩; rw [HF.out]; have hz9 := hz8.trans (hbd.mono hz8.size); clear hbd)
                          | (go_at_call 16; refine (rightT_any (HTz.out.below hz9) CR5.out).mono ?_; rintro e we ⟨rfl, hbe⟩; have hz10 := hz9.trans (hbe.mono hz9.size); clear hbe))
                        go_roundw
                        case rel => exact ⟨j + 1, ys, _, n5, c5, by omega, by go_num, rfl, ⟨(SL5.out.below hbz).below hz10, FAR5.out, HTz.out.below hz10, LONE5.out, BEL5.out.trans ((hbz.trans (hz10.mono hbz.size)).mono BEL5.out.size)⟩⟩
                        case measure => simp [intOf]; omega
                      · have hfr : decide (((ys.map De.d).length) = 0) = false := by rw [List.length_map, hyl]; simp [hn0]
                        have hn1 : (((n5 : Nat) : Int) == 0) = false := by simp [hn0]
                        have HF := Lib.hid hfr
                        have hn2 : ¬ ((n5 : Nat) : Int) = 0 := by omega
                        clear hfr hn0 hfe
                        go_wp2_with (first
                          | (go_at_call 12; refine (CHs.out).mono ?_; rintro e wa ⟨rfl, hba⟩; have g2 := (hba.cell hBz).trans g2; have hz6 := hba; clear hba)
                          | (go_at_call 14; refine (users_any (HTz.out.below hz6) d.ino).mono ?_; rintro e wb ⟨vb, rfl, hownb, hbb⟩; obtain ⟨Xb, cb, rfl⟩ := own_slice hownb; have HIb := Lib.hid (ints_of_nums rfl hownb); have hz7 := hz6.trans (hbb.mono hz6.size); clear hownb hbb)
                          | (go_at_call 13; refine (sameints_any _ _ HIb.out (HIz.out.below hz7) (by unfold maxLen; omega) (by unfold maxLen; omega)).mono ?_; rintro e wc ⟨rfl, hbc⟩; rw [decide_eq_true rfl]; have hz8 := hz7.trans (hbc.mono hz7.size); clear hbc)
                          | (go_at_call 15; refine (free_any (HTz.out.below hz8)).mono ?_; rintro e wd ⟨rfl, hbd⟩; rw [HF.out]; have hz9 := hz8.trans (hbd.mono hz8.size); clear hbd)
                          | (go_at_call 16; refine (rightT_any (HTz.out.below hz9) CR5.out).mono ?_; rintro e we ⟨rfl, hbe⟩; have hz10 := hz9.trans (hbe.mono hz9.size); clear hbe))
                        go_roundw
                        case rel => exact ⟨j + 1, ys, _, n5, c5, by omega, by go_num, rfl, ⟨(SL5.out.below hbz).below hz10, FAR5.out, HTz.out.below hz10, LONE5.out, BEL5.out.trans ((hbz.trans (hz10.mono hbz.size)).mono BEL5.out.size)⟩⟩
                        case measure => simp [intOf]; omega
      · have hge : ¬ (j : Int) < (m : Int) := by omega
        clear hlt hj
        go_wp2
        go_ret
        exact ⟨rfl, hbr⟩
end Go.Proofs.Ytcleabnbdfhmnaa
