/- The law BankReads, walked (package sumplaw11). -/
import Derived.Test.YtdnoniolpplgiaaRS
namespace Go.Proofs.Ytdnoniolpplgiaa
open Go.RowKit Go.Maps Go.Sort Go.Shelf
theorem words_nil01 (w : World) : Words w none 0 [] := ⟨rfl, .inl rfl⟩
section
variable {A1 A2 : Option Addr} {n1 n2 : Nat} {xs : List Int} {rs : List Wl} {w : World}
set_option maxRecDepth 100000 in
set_option maxHeartbeats 16000000 in
theorem reads_walk (pages : Int) (c1 c2 : Nat) (h1 : Words w A1 n1 xs) (l1 : xs ≠ [] → ∀ a, A1 = some a → a.block < w.heap.size) (h2 : Rows_ w w.heap.size A2 n2 rs) : Calls Try.prog 8 #[.int .i64 pages, .slice A1 n1 c1, .slice A2 n2 c2] w fun e w' => e = .returned (.bool true) ∧ Below w.heap.size w w' := by
  have H1 := Lib.hid h1
  have H2 := Lib.hid h2
  have L1 := Lib.hid l1
  clear h1 h2 l1
  by_cases x1 : n1 ≤ 200
  case neg =>
    have e1 := Lib.hid x1
    clear x1
    go_enter Try.func8, Try.ntmps8
    go_wp2_with (first
      | (go_at_call 33; refine (awake_bank w).mono ?_; rintro e w1 ⟨rfl, hb1⟩; have HB1 := Lib.hid hb1; clear hb1)
      | (go_at_call 34; (with_reducible refine (few_no w1 A1 n1 c1 e1.out).mono ?_); rintro e w' ⟨rfl, hw⟩; rw [hw]; clear hw w'))
    go_ret
    exact ⟨rfl, HB1.out⟩
  have e1 := Lib.hid x1
  clear x1
  by_cases x5 : (20 : Int) < n2
  case pos =>
    go_enter Try.func8, Try.ntmps8
    go_wp2_with (first
      | (go_at_call 33; refine (awake_bank w).mono ?_; rintro e w1 ⟨rfl, hb1⟩; have HB1 := Lib.hid hb1; clear hb1)
      | (go_at_call 34; (with_reducible refine (few_yes w1 A1 n1 c1 e1.out).mono ?_); rintro e w' ⟨rfl, hw⟩; rw [hw]; clear hw w'))
    go_ret
    exact ⟨rfl, HB1.out⟩
  by_cases hp : pages < 64 ∨ 100 < pages
  case pos =>
    go_enter Try.func8, Try.ntmps8
    go_wp2_with (first
      | (go_at_call 33; refine (awake_bank w).mono ?_; rintro e w1 ⟨rfl, hb1⟩; have HB1 := Lib.hid hb1; clear hb1)
      | (go_at_call 34; (with_reducible refine (few_yes w1 A1 n1 c1 e1.out).mono ?_); rintro e w' ⟨rfl, hw⟩; rw [hw]; clear hw w')
      | (go_at_call 35; refine (made_none (w := w1) pages hp).mono ?_; rintro e w2 ⟨p2, b2, i2, l2, q2, rfl, hb2⟩; unfold gv; have HB2 := Lib.hid (HB1.out.trans (hb2.mono HB1.out.size)); clear hb2))
    go_ret
    exact ⟨rfl, (HB2.out.alloc HB2.out.size _)⟩
  have h0 : 64 ≤ pages := by omega
  have h1 : pages ≤ 100 := by omega
  obtain ⟨hb0, hb1, hi0, hi1, hl0, hl1, hft⟩ := ofs h0 h1
  by_cases hs : iOf pages < n1
  case pos =>
    have CM0 := fun w1 (_ : Below w.heap.size w w1) => made_short (w := w1) (A := A1) (cap := c1) (B := none) (n2 := 0) (cap2 := 0) pages h0 h1 hs
    clear hp hb0 hb1 hft
    generalize bOf pages = b at *
    generalize iOf pages = i at *
    generalize lOf pages = l at *
    generalize qOf pages = q at *
    have CM := Lib.hid CM0
    unfold gv at CM
    clear CM0
    go_enter Try.func8, Try.ntmps8
    go_wp2_with (first
      | (go_at_call 33; refine (awake_bank w).mono ?_; rintro e w1 ⟨rfl, hb1⟩; have HB1 := Lib.hid hb1; clear hb1)
      | (go_at_call 34; (with_reducible refine (few_yes w1 A1 n1 c1 e1.out).mono ?_); rintro e w' ⟨rfl, hw⟩; rw [hw]; clear hw w')
      | (go_at_call 35; refine (CM.out w1 HB1.out).mono ?_; rintro e w2 ⟨t, rfl, hb2⟩; have HB2 := Lib.hid (HB1.out.trans (hb2.mono HB1.out.size)); clear hb2))
    go_ret
    exact ⟨rfl, (HB2.out.alloc HB2.out.size _)⟩
  have hs2 : (n1 : Int) ≤ iOf pages := by omega
  have CM0 := fun w1 (hb : Below w.heap.size w w1) => made_yes (w := w1) (cap := c1) (n2 := 0) (cap2 := 0) pages h0 h1 (H1.out.below hb) (fun hx a ha => Nat.lt_of_lt_of_le (L1.out hx a ha) hb.size) (words_nil01 w1) (fun _ a h => by cases h) hs2 (by omega)
  have CFI0 := fun (w3 : World) (t m c y : Nat) (T : List Int) (d : Dv) (bl : List Int) (h : DevIs w3 t m c y T d) (hB : Bank d (bOf pages) (iOf pages) (lOf pages) xs bl 1937075568 pages 2 (pages * 32)) => find_any h h0 h1 hB
  clear hs
  clear hp hb0 hb1 hft
  generalize bOf pages = b at *
  generalize iOf pages = i at *
  generalize lOf pages = l at *
  generalize qOf pages = q at *
  have CM := Lib.hid CM0
  unfold gv at CM
  clear CM0
  have CFI := Lib.hid CFI0
  clear CFI0
  have CAY := Lib.hid (fun (w3 : World) (t m c y N n cap : Nat) (T : List Int) (d : Dv) (bl zs : List Int) (A : Option Addr) (h : EX w3 w3 t m c y T d N) (hB : Bank d b i l xs bl 1937075568 pages 2 (pages * 32)) (hW : Words w3 A n zs) (hA : zs ≠ [] → ∀ a, A = some a → a.block ∉ [t, m, c, y]) (hi : n ≤ l - bl.length) (hn : n ≤ 5000) (hN : N ≤ 20000) => app_ok (p := pages) (q := q) h hB cap hW hA hi hn hN)
  have CAN := Lib.hid (fun (w3 : World) (t m c y n cap : Nat) (T : List Int) (d : Dv) (bl : List Int) (A : Option Addr) (h : DevIs w3 t m c y T d) (hB : Bank d b i l xs bl 1937075568 pages 2 (pages * 32)) (hi : l - bl.length < n) => app_no (p := pages) (q := q) (A := A) (cap := cap) h hB.bk hi)
  have CFR := Lib.hid (fun (w3 : World) (t m c y nl : Nat) (T : List Int) (d : Dv) (bl : List Int) (h : DevIs w3 t m c y T d) (hB : Bank d b i l xs bl 1937075568 pages 2 (pages * 32)) (hl : bl.length = nl) => free_bank (q := q) h hB pages hl)
  have CRD := Lib.hid (fun (w3 : World) (t m c y nl : Nat) (T : List Int) (d : Dv) (bl : List Int) (h : DevIs w3 t m c y T d) (hB : Bank d b i l xs bl 1937075568 pages 2 (pages * 32)) (hl : bl.length = nl) => read_bank' (q := q) h hB pages hl H1.out.1)
  unfold gv at CFI CAY CAN CFR CRD
  go_enter Try.func8, Try.ntmps8
  go_wp2_with (first
    | (go_at_call 33; refine (awake_bank w).mono ?_; rintro e w1 ⟨rfl, hb1⟩; have HB1 := Lib.hid hb1; clear hb1)
    | (go_at_call 34; (with_reducible refine (few_yes w1 A1 n1 c1 e1.out).mono ?_); rintro e w' ⟨rfl, hw⟩; rw [hw]; clear hw w')
    | (go_at_call 35; refine (CM.out w1 HB1.out).mono ?_; rintro e w2 ⟨t, m, c, y, T, d, rfl, hK, hE, hnew, hb2⟩; have HB2 := Lib.hid (HB1.out.trans (hb2.mono HB1.out.size)); have hba : Below w2.heap.size w2 (w2.alloc (.cells #[.int .i64 pages, .int .i64 b, .int .i64 i, .int .i64 l, .int .i64 q] 58)) := (Below.refl _ _).alloc (Nat.le_refl _) _; have HRS := Lib.hid (show RS w (w2.alloc (.cells #[.int .i64 pages, .int .i64 b, .int .i64 i, .int .i64 l, .int .i64 q] 58)) t m c y w2.heap.size 1000 0 [] [] xs none 0 T d pages b i l q from ⟨hE.at_ hba, hK, GB.new w2 pages b i l q, out_at hE.dev.lt 0, fun j hj => Nat.le_trans HB1.out.size (hnew j hj), HB2.out.trans (hba.mono HB2.out.size), rfl, World.ownsRow_nil _ _ _ _, fun k hk => by cases hk⟩); clear hb2 hba hE hK hnew))
  generalize w2.heap.size = gb at *
  go_loopw [10, 54] (fun v u wr => ∃ (j nl : Nat) (lg : List Int) (X : Option Addr) (cx : Nat) (T : List Int) (d : Dv), j ≤ n2 ∧ u = .int .i64 j ∧ v = .slice X nl cx ∧ RS w wr t m c y gb (1000 + 430 * j) nl lg lg xs X cx T d pages b i l q) (fun _ u _ => n2 - (intOf u).toNat)
  case atStart => exact ⟨0, 0, [], none, 0, T, d, Nat.zero_le _, rfl, rfl, HRS.out⟩
  case round =>
    obtain ⟨j, nl, lg, X, cx, T4, d4, hj, rfl, rfl, hrs⟩ := hrel
    have HR := Lib.hid hrs
    have hnl : (nl : Int) ≤ l := by have := hrs.bk.lg; rw [hrs.len] at this; exact this
    have hwr : IntKind.i64.wrap (l - (nl : Int)) = l - (nl : Int) := IntWalk.i64_in _ (by omega)
    have HML := Lib.hid (show n1 ≤ maxLen ∧ nl ≤ maxLen from by have := e1.out; unfold maxLen; omega)
    have r0 := hrs.g.c0
    have r1 := hrs.g.c1
    have r2 := hrs.g.c2
    have r3 := hrs.g.c3
    have r4 := hrs.g.c4
    clear hrs HRS
    by_cases hlt : j < n2
    · obtain ⟨g, off, rfl, hgl, r, c0, hW, hrm, hrl⟩ := (H2.out.below HR.out.bel).at hlt
      obtain ⟨ra, rn, rc, rx⟩ := r
      have HW := Lib.hid hW
      have HRL := Lib.hid hrl
      clear hW hrm hrl
      dsimp only at c0 HW HRL
      by_cases x3 : rn ≤ 200
      case neg =>
        have e3 := Lib.hid x3
        clear x3
        go_wp2_with ((go_at_call 34; (with_reducible refine (few_no wr ra rn rc e3.out).mono ?_); rintro e w' ⟨rfl, hw⟩; rw [hw]; clear hw w'))
        go_ret
        exact ⟨rfl, HR.out.bel⟩
      have e3 := Lib.hid x3
      have hrn : (rn : Int) ≤ 200 := by omega
      clear x3
      have HLN := Lib.hid HR.out.len
      by_cases hfit : (rn : Int) ≤ l - nl
      · have HLL := Lib.hid (show (lg ++ rx).length = nl + rn from by rw [List.length_append, HLN.out, HW.out.1])
        have HMN := Lib.hid (show nl + rn ≤ maxLen from by have := HML.out.2; have := e3.out; unfold maxLen; omega)
        have hwr2 : IntKind.i64.wrap (l - ((nl + rn : Nat) : Int)) = l - ((nl + rn : Nat) : Int) := IntWalk.i64_in _ (by omega)
        have hwr3 : IntKind.i64.wrap (l - ((nl : Int) + (rn : Int))) = l - ((nl : Int) + (rn : Int)) := IntWalk.i64_in _ (by omega)
        go_wp2_with (first
          | (go_at_call 34; (with_reducible refine (few_yes wr ra rn rc e3.out).mono ?_); rintro e w' ⟨rfl, hw⟩; rw [hw]; clear hw w')
          | (go_at_call 36; refine (CAY.out _ _ _ _ _ _ _ rc _ _ _ _ _ HR.out.ex HR.out.bk HW.out (fun hx a ha => not_old HR.out.new (HRL.out hx a ha)) (by rw [HLN.out]; exact hfit) (by omega) (by omega)).mono ?_; rintro e w4 ⟨T5, d5, rfl, hB, hE⟩; have hba := hE.kept; have HR4 := Lib.hid (HR.out.step (N2 := 1000 + 430 * (j + 1)) hE (by omega) hB); have HW4 := Lib.hid (HW.out.kept hba (fun hx a ha => not_old HR.out.new (HRL.out hx a ha))); have g40 := HR4.out.g.c0; have g41 := HR4.out.g.c1; have g42 := HR4.out.g.c2; have g43 := HR4.out.g.c3; have g44 := HR4.out.g.c4; clear hB hE hba)
          | (at_builtin; refine wpList_appU rfl _ _ rfl (v := .slice X nl cx) (Y := ra) (m := rn) (c := rc) (xs := lg) (ys := rx) (n := nl) rfl rfl HR4.out.row HW4.out (by omega) (by omega) HR4.out.bel.size ?_; intro v7 w7 hown7 hg7 hat7; obtain ⟨X7, c7, rfl⟩ := own_slice hown7; have HR7 := Lib.hid (HR4.out.app HW.out.1 hown7 hg7 hat7); have g70 := HR7.out.g.c0; have g71 := HR7.out.g.c1; have g72 := HR7.out.g.c2; have g73 := HR7.out.g.c3; have g74 := HR7.out.g.c4; clear hown7 hg7 hat7)
          | (go_at_call 39; refine (CFR.out _ _ _ _ _ (nl + rn) _ _ _ HR7.out.ex.dev HR7.out.bk (HLL.out)).mono ?_; rintro e w8 ⟨rfl, hb⟩; have HR8 := Lib.hid (HR7.out.below hb); have g80 := HR8.out.g.c0; have g81 := HR8.out.g.c1; have g82 := HR8.out.g.c2; have g83 := HR8.out.g.c3; have g84 := HR8.out.g.c4; clear hb)
          | (go_at_call 37; refine (CRD.out _ _ _ _ _ (nl + rn) _ _ _ HR8.out.ex.dev HR8.out.bk (HLL.out)).mono ?_; rintro e w9 ⟨X9, cx9, Y9, cy9, rfl, hX, hY, hb⟩; have HR9 := Lib.hid (HR8.out.below hb); have HX := Lib.hid hX; have HY := Lib.hid hY; have g90 := HR9.out.g.c0; have g91 := HR9.out.g.c1; have g92 := HR9.out.g.c2; have g93 := HR9.out.g.c3; have g94 := HR9.out.g.c4; clear hb hX hY)
          | (go_at_call 38; first
            | (with_reducible refine (words_eq cx9 c1 rfl HX.out (H1.out.below HR9.out.bel) HML.out.1).mono ?_; rintro e w10 ⟨rfl, hb⟩; have HR10 := Lib.hid (HR9.out.below hb); have HY10 := Lib.hid (HY.out.below hb); have g100 := HR10.out.g.c0; have g101 := HR10.out.g.c1; have g102 := HR10.out.g.c2; have g103 := HR10.out.g.c3; have g104 := HR10.out.g.c4; clear hb)
            | (with_reducible refine (words_eq cy9 c7 rfl HY10.out (words_of_row (by rw [HLL.out]) HR10.out.row) HMN.out).mono ?_; rintro e w11 ⟨rfl, hb⟩; have HR11 := Lib.hid (HR10.out.below hb); clear hb)))
        go_roundw
        case rel => exact ⟨j + 1, nl + rn, lg ++ rx, X7, c7, _, _, by omega, by go_num, rfl, HR11.out⟩
        case measure => simp [intOf]; omega
      · have HLL := Lib.hid HLN.out
        have HMN := Lib.hid HML.out.2
        go_wp2_with (first
          | (go_at_call 34; (with_reducible refine (few_yes wr ra rn rc e3.out).mono ?_); rintro e w' ⟨rfl, hw⟩; rw [hw]; clear hw w')
          | (go_at_call 36; refine (CAN.out _ _ _ _ _ _ rc _ _ _ ra HR.out.ex.dev HR.out.bk (by rw [HLN.out]; omega)).mono ?_; rintro e w4 ⟨rfl, hb⟩; have HR4 := Lib.hid ((HR.out.below hb).mono (N2 := 1000 + 430 * (j + 1)) (by omega)); have g40 := HR4.out.g.c0; have g41 := HR4.out.g.c1; have g42 := HR4.out.g.c2; have g43 := HR4.out.g.c3; have g44 := HR4.out.g.c4; clear hb)
          | (go_at_call 39; refine (CFR.out _ _ _ _ _ (nl) _ _ _ HR4.out.ex.dev HR4.out.bk (HLL.out)).mono ?_; rintro e w8 ⟨rfl, hb⟩; have HR8 := Lib.hid (HR4.out.below hb); have g80 := HR8.out.g.c0; have g81 := HR8.out.g.c1; have g82 := HR8.out.g.c2; have g83 := HR8.out.g.c3; have g84 := HR8.out.g.c4; clear hb)
          | (go_at_call 37; refine (CRD.out _ _ _ _ _ (nl) _ _ _ HR8.out.ex.dev HR8.out.bk (HLL.out)).mono ?_; rintro e w9 ⟨X9, cx9, Y9, cy9, rfl, hX, hY, hb⟩; have HR9 := Lib.hid (HR8.out.below hb); have HX := Lib.hid hX; have HY := Lib.hid hY; have g90 := HR9.out.g.c0; have g91 := HR9.out.g.c1; have g92 := HR9.out.g.c2; have g93 := HR9.out.g.c3; have g94 := HR9.out.g.c4; clear hb hX hY)
          | (go_at_call 38; first
            | (with_reducible refine (words_eq cx9 c1 rfl HX.out (H1.out.below HR9.out.bel) HML.out.1).mono ?_; rintro e w10 ⟨rfl, hb⟩; have HR10 := Lib.hid (HR9.out.below hb); have HY10 := Lib.hid (HY.out.below hb); have g100 := HR10.out.g.c0; have g101 := HR10.out.g.c1; have g102 := HR10.out.g.c2; have g103 := HR10.out.g.c3; have g104 := HR10.out.g.c4; clear hb)
            | (with_reducible refine (words_eq cy9 cx rfl HY10.out (words_of_row (by rw [HLL.out]) HR10.out.row) HMN.out).mono ?_; rintro e w11 ⟨rfl, hb⟩; have HR11 := Lib.hid (HR10.out.below hb); clear hb)))
        go_roundw
        case rel => exact ⟨j + 1, nl, lg, X, cx, _, _, by omega, by go_num, rfl, HR11.out⟩
        case measure => simp [intOf]; omega
    · go_wp2_with (first
        | (go_at_call 40; refine (CFI.out _ _ _ _ _ _ _ _ HR.out.ex.dev HR.out.bk).mono ?_; rintro e w20 ⟨rfl, hb⟩; have HR20 := Lib.hid (HR.out.below hb); have HR21 := Lib.hid (HR20.out.below ((Below.refl _ _).alloc (Nat.le_refl _) (.cells #[.int .i64 pages, .int .i64 b, .int .i64 i, .int .i64 l, .int .i64 q] 58))); have g210 := HR21.out.g.c0; have g211 := HR21.out.g.c1; have g212 := HR21.out.g.c2; have g213 := HR21.out.g.c3; have g214 := HR21.out.g.c4; have g200 := HR20.out.g.c0; have g201 := HR20.out.g.c1; have g202 := HR20.out.g.c2; have g203 := HR20.out.g.c3; have g204 := HR20.out.g.c4; clear hb)
        | (go_at_call 41; refine (root_bank HR21.out.ex.dev HR21.out.bk (by omega)).mono ?_; rintro e w' ⟨rfl, hw⟩; rw [hw]; clear hw w'))
      go_ret
      exact ⟨rfl, HR21.out.bel⟩
end
end Go.Proofs.Ytdnoniolpplgiaa
