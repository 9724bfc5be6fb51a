/- The example of a bank: a contract (package sumplaw11). -/
import Derived.Test.YtdnoniolpplgiaaMade
import Derived.Test.YtdnoniolpplgiaaWords
namespace Go.Proofs.Ytdnoniolpplgiaa
open Go.RowKit Go.Maps Go.Sort Go.Shelf
section
variable {w : World} {t m c y : Nat} {T : List Int} {d : Dv} {p b i l q : Int} {image log : List Int} {m0 m1 rt many : Int}
theorem read_bank (h : DevIs w t m c y T d) (hB : Bank d b i l image log m0 m1 rt many) : Calls Try.prog 37 #[.pointer (some ⟨t, 0, none⟩), gv p b i l q, .int .i64 0] w fun e w' => ∃ X cx Y cy, e = .returned (.tuple #[.slice X image.length cx, .slice Y log.length cy, .int .i64 0]) ∧ Words w' X image.length image ∧ Words w' Y log.length log ∧ Below w.heap.size w w' := by
  refine (read_any h hB.bk).mono ?_
  rintro e w' ⟨X, cx, Y, cy, rfl, h1, h2, hb⟩
  rw [hB.image] at h1
  rw [hB.log] at h2
  exact ⟨X, cx, Y, cy, rfl, h1, h2, hb⟩
theorem words_same {A B : Option Addr} {n k : Nat} {xs : List Int} {w : World} (cap cap2 : Nat) (h : Words w A n xs) (h2 : Words w B k xs) (hm : n ≤ maxLen) : Calls Try.prog 38 #[.slice A n cap, .slice B k cap2] w fun e w' => e = .returned (.bool true) ∧ Below w.heap.size w w' := by
  have hk : k ≤ maxLen := by have := h.1; have := h2.1; omega
  refine (samewords_any cap cap2 h h2 hm hk).mono ?_
  rintro e w' ⟨rfl, hb⟩
  exact ⟨by simp, hb⟩
theorem few_words (w : World) (A : Option Addr) (n cap : Nat) : Calls Try.prog 34 #[.slice A n cap] w fun e w' => e = .returned (.bool (decide (n ≤ 200))) ∧ w' = w := by
  have hd : decide ((n : Int) ≤ 200) = decide (n ≤ 200) := by apply decide_eq_decide.2; omega
  by_cases hn : n ≤ 200
  · have hn' : (n : Int) ≤ 200 := by omega
    go_enter Try.func34, Try.ntmps34
    go_wp2
    go_ret
    exact ⟨by simp [hn], rfl⟩
  · have hn' : ¬ (n : Int) ≤ 200 := by omega
    go_enter Try.func34, Try.ntmps34
    go_wp2
    go_ret
    exact ⟨by simp, rfl⟩
set_option maxRecDepth 100000 in
set_option maxHeartbeats 8000000 in
theorem awake_bank (w : World) : Calls Try.prog 33 #[] w fun e w' => e = .returned (.bool true) ∧ Below w.heap.size w w' := by
  have h1 : Below w.heap.size w (w.alloc (.cells #[.int .u64 1, .int .u64 2] 28)) := (Below.refl _ _).alloc (Nat.le_refl _) _
  have h2 : Below w.heap.size w ((w.alloc (.cells #[.int .u64 1, .int .u64 2] 28)).alloc (.cells #[.int .u64 3] 28)) := h1.alloc h1.size _
  have hw1 := (words_new2 w 1 2).below ((Below.refl _ _).alloc (Nat.le_refl _) (.cells #[.int .u64 3] 28))
  have hw2 := words_one (w.alloc (.cells #[.int .u64 1, .int .u64 2] 28)) 3
  have hsz : (w.alloc (.cells #[.int .u64 1, .int .u64 2] 28)).heap.size = w.heap.size + 1 := by simp
  have hsz2 : ((w.alloc (.cells #[.int .u64 1, .int .u64 2] 28)).alloc (.cells #[.int .u64 3] 28)).heap.size = w.heap.size + 2 := by simp
  have hiL : (2 : Int) ≤ iOf 64 := by decide
  have hlL : (1 : Int) ≤ lOf 64 := by decide
  rw [hsz] at hw2
  have CM := Lib.hid (made_yes (n := 2) (cap := 2) (n2 := 1) (cap2 := 1) 64 (by omega) (by omega) hw1 (fun _ a ha => by cases ha; rw [hsz2]; exact Nat.lt_add_of_pos_right (by omega)) hw2 (fun _ a ha => by cases ha; rw [hsz2]; exact Nat.lt_succ_self _) hiL hlL)
  have HB2 := Lib.hid h2
  have hml : (1 : Nat) ≤ maxLen ∧ 2 ≤ maxLen := by decide
  have HML := Lib.hid hml
  clear h1 h2 hw1 hw2 hsz hsz2 hiL hlL hml
  generalize bOf 64 = b at *
  generalize iOf 64 = i at *
  generalize lOf 64 = l at *
  generalize qOf 64 = q at *
  unfold gv at CM
  go_enter Try.func33, Try.ntmps33
  go_wp2_with (first
    | (go_at_call 35; refine (CM.out).mono ?_; rintro e w3 ⟨t, m, c, y, T, d, rfl, hK, hE, _, hb⟩; have HB3 := Lib.hid (HB2.out.trans (hb.mono HB2.out.size)); have hba : Below w3.heap.size w3 (w3.alloc (.cells #[.int .i64 64, .int .i64 b, .int .i64 i, .int .i64 l, .int .i64 q] 58)) := (Below.refl _ _).alloc (Nat.le_refl _) _; have CR := Lib.hid (read_bank (p := 64) (q := q) (hE.dev.below hba) hK); have HB4 := Lib.hid (HB3.out.trans (hba.mono HB3.out.size)); unfold gv at CR; clear hK hE hb hba)
    | (go_at_call 37; refine (CR.out).mono ?_; rintro e w4 ⟨X, cx, Y, cy, rfl, hX, hY, hb⟩; have HX := Lib.hid (show Words w4 X 2 [1, 2] from hX); have HY := Lib.hid (show Words w4 Y 1 [3] from hY); have HB5 := Lib.hid (HB4.out.trans (hb.mono HB4.out.size)); clear hX hY hb)
    | (go_at_call 38; first
      | (with_reducible refine (words_same (w := w4.alloc (.cells #[.int .u64 1, .int .u64 2] 28)) cx 2 (HX.out.below ((Below.refl _ _).alloc (Nat.le_refl _) _)) (words_new2 w4 1 2) HML.out.2).mono ?_; rintro e w5 ⟨rfl, hb5⟩; have hba : Below w4.heap.size w4 (w4.alloc (.cells #[.int .u64 1, .int .u64 2] 28)) := (Below.refl _ _).alloc (Nat.le_refl _) _; have HB6 := Lib.hid (HB5.out.trans (((hba.trans (hb5.mono hba.size))).mono HB5.out.size)); have HY5 := Lib.hid ((HY.out.below hba).below hb5); clear hb5 hba)
      | (with_reducible refine (words_same (w := w5.alloc (.cells #[.int .u64 3] 28)) cy 1 (HY5.out.below ((Below.refl _ _).alloc (Nat.le_refl _) _)) (words_one w5 3) HML.out.1).mono ?_; rintro e w6 ⟨rfl, hb6⟩; have hba : Below w5.heap.size w5 (w5.alloc (.cells #[.int .u64 3] 28)) := (Below.refl _ _).alloc (Nat.le_refl _) _; have HB7 := Lib.hid (HB6.out.trans (((hba.trans (hb6.mono hba.size))).mono HB6.out.size)); clear hb6 hba)))
  go_ret
  exact ⟨rfl, HB7.out⟩
end
end Go.Proofs.Ytdnoniolpplgiaa
