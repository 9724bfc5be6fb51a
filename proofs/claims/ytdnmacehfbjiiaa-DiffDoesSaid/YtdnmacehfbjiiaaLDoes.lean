/- The law DiffDoes, walked (package sumplaw41). -/
import Derived.Test.YtdnmacehfbjiiaaWake
import Derived.Test.YtdnmacehfbjiiaaFind
import Derived.Deep.CutBlock
import Derived.Laws.Cover1
namespace Go.Proofs.Ytdnmacehfbjiiaa
open Go.RowKit Go.Maps Go.Sort Go.Shelf

/-- What the law says became of a path. -/
def wantI (fa fb : Str → Option It) (p : Str) : Int := if (fa p).isSome = true ∧ (fb p).isSome = false then 2 else if (fa p).isSome = false ∧ (fb p).isSome = true then 1 else kindI ((fa p).getD It.zero) ((fb p).getD It.zero)
theorem want_chK {fa fb : Str → Option It} {p : Str} (h : (fa p).isSome = true ∨ (fb p).isSome = true) : chK fa fb p = wantI fa fb p := by
  unfold chK wantI
  cases h1 : (fa p).isSome <;> cases h2 : (fb p).isSome <;> simp_all
theorem want_none {fa fb : Str → Option It} {p : Str} (h1 : (fa p).isSome = false) (h2 : (fb p).isSome = false) : wantI fa fb p = 0 := by
  unfold wantI
  have e1 : fa p = none := by cases e : fa p with | none => rfl | some x => rw [e] at h1; cases h1
  have e2 : fb p = none := by cases e : fb p with | none => rfl | some x => rw [e] at h2; cases h2
  rw [e1, e2]
  simp [kindI_self]
theorem kindI_range (x y : It) : 0 ≤ kindI x y ∧ kindI x y ≤ 5 := by unfold kindI; split <;> (try split) <;> (try split) <;> omega
theorem chK_range (fa fb : Str → Option It) (p : Str) : 0 ≤ chK fa fb p ∧ chK fa fb p ≤ 5 := by
  unfold chK
  have := kindI_range ((fa p).getD It.zero) ((fb p).getD It.zero)
  split
  · omega
  · split <;> omega
theorem chs_mem {fa fb : Str → Option It} {ps : List Str} {c : Ch} (h : c ∈ chs fa fb ps) : c.1 ∈ ps ∧ c.2 = chK fa fb c.1 ∧ c.2 ≠ 0 := by
  unfold chs at h
  rw [List.mem_filterMap] at h
  obtain ⟨p, hp, he⟩ := h
  split at he
  · next hk => cases he; exact ⟨hp, rfl, hk⟩
  · cases he
theorem mem_chs {fa fb : Str → Option It} {ps : List Str} {p : Str} (hp : p ∈ ps) (hk : chK fa fb p ≠ 0) : (p, chK fa fb p) ∈ chs fa fb ps := by
  unfold chs
  rw [List.mem_filterMap]
  exact ⟨p, hp, by rw [if_pos hk]⟩
theorem paths_lt {fa fb : Str → Option It} {ps : List Str} (h : PathsOf fa fb ps) : ps.Pairwise (fun a b => Op.bytesLess a b = true) := by
  have h1 := h.1
  have h2 := h.2.1
  rw [List.nodup_iff_pairwise_ne] at h2
  refine (h1.and h2).imp ?_
  rintro a b ⟨h3, h4⟩
  rw [bytesLess_eq, decide_eq_true_iff]
  simp only [leB, decide_eq_true_eq] at h3
  exact Classical.byContradiction fun hn => h4 (List.le_antisymm h3 (List.not_lt.1 hn))
theorem chs_lt {fa fb : Str → Option It} {ps : List Str} (h : PathsOf fa fb ps) : (chs fa fb ps).Pairwise (fun a b => Op.bytesLess a.1 b.1 = true) := by
  unfold chs
  rw [List.pairwise_filterMap]
  refine (paths_lt h).imp ?_
  intro a b hab c hc d hd
  split at hc
  · split at hd
    · cases hc; cases hd; exact hab
    · cases hd
  · cases hc
def gotF (l : List Ch) (p : Str) : Int := l.foldl (fun g c => if c.1 = p then c.2 else g) 0
theorem gotF_snoc (l : List Ch) (c : Ch) (p : Str) : gotF (l ++ [c]) p = if c.1 = p then c.2 else gotF l p := by unfold gotF; rw [List.foldl_append]; rfl
theorem got_no {l : List Ch} {p : Str} : ∀ g : Int, (∀ c ∈ l, c.1 ≠ p) → l.foldl (fun g c => if c.1 = p then c.2 else g) g = g := by
  induction l with
  | nil => intro g _; rfl
  | cons x t ih =>
    intro g h
    rw [List.foldl_cons, if_neg (h x List.mem_cons_self)]
    exact ih g (fun c hc => h c (List.mem_cons_of_mem _ hc))
theorem bytesLess_irrefl (a : Str) : Op.bytesLess a a ≠ true := by rw [bytesLess_eq]; simp [List.lt_irrefl]
theorem got_yes {l : List Ch} {p : Str} {c : Ch} (hc : c ∈ l) (hp : c.1 = p) : ∀ g : Int, l.Pairwise (fun a b => Op.bytesLess a.1 b.1 = true) → l.foldl (fun g c => if c.1 = p then c.2 else g) g = c.2 := by
  induction l with
  | nil => cases hc
  | cons x t ih =>
    intro g h
    rw [List.pairwise_cons] at h
    rw [List.foldl_cons]
    rcases List.mem_cons.1 hc with rfl | hc
    · rw [if_pos hp]
      exact got_no _ (fun d hd e => bytesLess_irrefl _ (by have := h.1 d hd; rw [e, ← hp] at this; exact this))
    · exact ih hc _ h.2
theorem got_want {fa fb : Str → Option It} {ps : List Str} (h : PathsOf fa fb ps) (p : Str) : gotF (chs fa fb ps) p = wantI fa fb p := by
  by_cases hp : p ∈ ps
  · have hm := (h.2.2 p).1 hp
    rw [← want_chK hm]
    by_cases hk : chK fa fb p = 0
    · rw [hk]
      refine got_no 0 (fun c hc e => ?_)
      obtain ⟨_, h2, h3⟩ := chs_mem hc
      rw [e, hk] at h2
      exact h3 h2
    · exact got_yes (mem_chs hp hk) rfl 0 (chs_lt h)
  · have hn : (fa p).isSome = false ∧ (fb p).isSome = false := by
      have := fun hh => hp ((h.2.2 p).2 hh)
      cases h1 : (fa p).isSome <;> cases h2 : (fb p).isSome <;> simp_all
    rw [want_none hn.1 hn.2]
    exact got_no 0 (fun c hc e => hp (e ▸ (chs_mem hc).1))
/-- A change's box. -/
structure B2 (w : World) (g : Nat) (x : Ch) : Prop where
  lt : g < w.heap.size
  c0 : w.cell? ⟨g, 0, none⟩ = some (encStr x.1)
  c1 : w.cell? ⟨g, 1, none⟩ = some (.int .i64 x.2)
theorem B2.new (w : World) (x : Ch) : B2 (w.alloc (.cells #[encStr x.1, .int .i64 x.2] 33)) w.heap.size x := ⟨by simp, by go_simp, by go_simp⟩
theorem B2.below {w w' : World} {g : Nat} {x : Ch} (h : B2 w g x) (hb : Below w.heap.size w w') : B2 w' g x := ⟨Nat.lt_of_lt_of_le h.lt hb.size, (hb.cell h.lt).trans h.c0, (hb.cell h.lt).trans h.c1⟩
theorem drew_below {B : Nat} {a w : World} (h : Below B a w) (n : Nat) : Below B a (w.drewN n) := h.trans ⟨rfl, rfl, rfl, Nat.le_refl _, fun _ _ => rfl⟩
theorem bytes_get {w : World} {A : Option Addr} {n : Nat} {xs : List It} (h : Items w A n xs) (k : Str) : Bytes w ((firstF xs k).getD It.zero).a ((firstF xs k).getD It.zero).n ((firstF xs k).getD It.zero).bs := (good_get h k).bytes
set_option maxRecDepth 100000 in
set_option maxHeartbeats 16000000 in
theorem ldoes_walk {w : World} {A A2 : Option Addr} {n m : Nat} {xs ys : List It} (c c2 : Nat) (h : Items w A n xs) (h2 : Items w A2 m ys) (hn : n ≤ maxLen) (hm : m ≤ maxLen) (p : Str) (hp : p.length ≤ maxLen) : Calls Try.prog 3 #[.slice A n c, .slice A2 m c2, encStr p] w fun e w' => e = .returned (.bool true) ∧ Below w.heap.size w w' := by
  have H := Lib.hid h
  have H2 := Lib.hid h2
  have CA := Lib.hid (awake_any w)
  have hl1 := h.1
  have hl2 := h2.1
  have CF0 := fun w1 (hb : Below w.heap.size w w1) => few_any c (h.below hb) hn
  have CG0 := fun w1 (hb : Below w.heap.size w w1) => few_any c2 (h2.below hb) hm
  unfold maxLen at hp
  clear h h2
  cases hfb : fewI xs with
  | false =>
    rw [hfb] at CF0
    have CF := Lib.hid CF0
    clear CF0 CG0 hfb
    go_enter Try.func3, Try.ntmps3
    go_wp2_with (first
      | (go_at_call 6; refine (CA.out).mono ?_; rintro e w1 ⟨rfl, hb1⟩; have HB1 := Lib.hid hb1; clear hb1)
      | (go_at_call 7; first | (with_reducible refine (CF.out w1 HB1.out).mono ?_; rintro e w2 ⟨rfl, hb2⟩; have HB2 := Lib.hid (HB1.out.trans (hb2.mono HB1.out.size)); clear hb2)))
    go_ret
    exact ⟨rfl, HB2.out⟩
  | true =>
    rw [hfb] at CF0
    have CF := Lib.hid CF0
    obtain ⟨hfl, _⟩ := fewI_le hfb
    clear CF0 hfb
    cases hgb : fewI ys with
    | false =>
      rw [hgb] at CG0
      have CG := Lib.hid CG0
      clear CG0 hgb
      go_enter Try.func3, Try.ntmps3
      go_wp2_with (first
        | (go_at_call 6; refine (CA.out).mono ?_; rintro e w1 ⟨rfl, hb1⟩; have HB1 := Lib.hid hb1; clear hb1)
        | (go_at_call 7; first | (with_reducible refine (CF.out w1 HB1.out).mono ?_; rintro e w2 ⟨rfl, hb2⟩; have HB2 := Lib.hid (HB1.out.trans (hb2.mono HB1.out.size)); clear hb2) | (with_reducible refine (CG.out w2 HB2.out).mono ?_; rintro e w3 ⟨rfl, hb3⟩; have HB3 := Lib.hid (HB2.out.trans (hb3.mono HB2.out.size)); clear hb3)))
      go_ret
      exact ⟨rfl, HB3.out⟩
    | true =>
      rw [hgb] at CG0
      have CG := Lib.hid CG0
      obtain ⟨hgl, _⟩ := fewI_le hgb
      clear CG0 hgb
      by_cases hp2 : 200 < p.length
      · have hp3 : (200 : Int) < p.length := by omega
        go_enter Try.func3, Try.ntmps3
        go_wp2_with (first
          | (go_at_call 6; refine (CA.out).mono ?_; rintro e w1 ⟨rfl, hb1⟩; have HB1 := Lib.hid hb1; clear hb1)
          | (go_at_call 7; first | (with_reducible refine (CF.out w1 HB1.out).mono ?_; rintro e w2 ⟨rfl, hb2⟩; have HB2 := Lib.hid (HB1.out.trans (hb2.mono HB1.out.size)); clear hb2) | (with_reducible refine (CG.out w2 HB2.out).mono ?_; rintro e w3 ⟨rfl, hb3⟩; have HB3 := Lib.hid (HB2.out.trans (hb3.mono HB2.out.size)); clear hb3)))
        go_ret
        exact ⟨rfl, HB3.out⟩
      · have hp3 : ¬ (200 : Int) < p.length := by omega
        go_enter Try.func3, Try.ntmps3
        go_upto_block 0 with (first
          | (go_at_call 6; refine (CA.out).mono ?_; rintro e w1 ⟨rfl, hb1⟩; have HB1 := Lib.hid hb1; clear hb1)
          | (go_at_call 7; first | (with_reducible refine (CF.out w1 HB1.out).mono ?_; rintro e w2 ⟨rfl, hb2⟩; have HB2 := Lib.hid (HB1.out.trans (hb2.mono HB1.out.size)); clear hb2) | (with_reducible refine (CG.out w2 HB2.out).mono ?_; rintro e w3 ⟨rfl, hb3⟩; have HB3 := Lib.hid (HB2.out.trans (hb3.mono HB2.out.size)); clear hb3))
          | (go_at_call 8; refine (of_any c c2 (H.out.below HB3.out) (H2.out.below HB3.out) (by omega) (by omega)).mono ?_; rintro e w4 ⟨ps, X, cx, k, hP, rfl, hC, hk, hb⟩; have HP := Lib.hid hP; have HC4 := Lib.hid hC; have HB4 := Lib.hid (HB3.out.trans (hb.mono HB3.out.size)); clear hP hC hb)
          | (go_at_call 9; first
          | (with_reducible refine (find_any c (H.out.below HB4.out) (by omega) p).mono ?_; rintro e w5 ⟨rfl, hb⟩; unfold itV itC; have HB5 := Lib.hid (HB4.out.trans (hb.mono HB4.out.size)); have HC5 := Lib.hid (HC4.out.below hb); have HB6 := Lib.hid (HB5.out.alloc HB5.out.size (.cells (itC ((firstF xs p).getD It.zero)) 29)); have HC6 := Lib.hid (HC5.out.below ((Below.refl _ _).alloc (Nat.le_refl _) (.cells (itC ((firstF xs p).getD It.zero)) 29))); have HX6 := Lib.hid (BX.new w5 ((firstF xs p).getD It.zero)); unfold itC at HB6 HC6 HX6; clear hb)
          | (with_reducible refine (find_any c2 (H2.out.below HB6.out) (by omega) p).mono ?_; rintro e w7 ⟨rfl, hb⟩; unfold itV itC; have HB7 := Lib.hid (HB6.out.trans (hb.mono HB6.out.size)); have HC7 := Lib.hid (HC6.out.below hb); have HX7 := Lib.hid (HX6.out.below hb); have HB8 := Lib.hid (HB7.out.alloc HB7.out.size (.cells (itC ((firstF ys p).getD It.zero)) 29)); have HC8 := Lib.hid (HC7.out.below ((Below.refl _ _).alloc (Nat.le_refl _) (.cells (itC ((firstF ys p).getD It.zero)) 29))); have HX8 := Lib.hid (HX7.out.below ((Below.refl _ _).alloc (Nat.le_refl _) (.cells (itC ((firstF ys p).getD It.zero)) 29))); have HY8 := Lib.hid (BX.new w7 ((firstF ys p).getD It.zero)); have HBX := Lib.hid (bytes_get (H.out.below HB8.out) p); have HBY := Lib.hid (bytes_get (H2.out.below HB8.out) p); unfold itC at HB8 HC8 HX8 HY8 HBX HBY; clear hb)))
        have HS1 := Lib.hid (str_of ((firstF xs p).getD It.zero).c HBX.out)
        have HS2 := Lib.hid (str_of ((firstF ys p).getD It.zero).c HBY.out)
        have HWN := Lib.hid (show wantI (firstF xs) (firstF ys) p = if (firstF xs p).isSome = true ∧ (firstF ys p).isSome = false then 2 else if (firstF xs p).isSome = false ∧ (firstF ys p).isSome = true then 1 else kindI ((firstF xs p).getD It.zero) ((firstF ys p).getD It.zero) from rfl)
        generalize his : (firstF xs p).isSome = is at *
        generalize hwas : (firstF ys p).isSome = was at *
        have HIS := Lib.hid his
        have HWAS := Lib.hid hwas
        clear his hwas
        go_cut [12] (fun v wx => v = .int .i64 (wantI (firstF xs) (firstF ys) p) ∧ Below w.heap.size w wx ∧ Changes wx X k (chs (firstF xs) (firstF ys) ps))
        case first =>
          generalize wantI (firstF xs) (firstF ys) p = wv at *
          generalize (firstF xs p).getD It.zero = x at *
          generalize (firstF ys p).getD It.zero = y at *
          have x1 := HX8.out.c1
          have x2 := HX8.out.c2
          have x3 := HX8.out.c3
          have x4 := HX8.out.c4
          have y1 := HY8.out.c1
          have y2 := HY8.out.c2
          have y3 := HY8.out.c3
          have y4 := HY8.out.c4
          have s1 := HS1.out
          have s2 := HS2.out
          cases is with
          | true =>
            cases was with
            | false =>
              rw [if_pos (by simp)] at HWN
              go_wp2
              go_meet
              exact ⟨by rw [HWN.out], HB8.out, HC8.out⟩
            | true =>
              rw [if_neg (by simp), if_neg (by simp)] at HWN
              unfold kindI at HWN
              by_cases hkk : x.kind = y.kind
              · have q1 : (x.kind != y.kind) = false := by simp [hkk]
                by_cases hii : x.ino = y.ino
                · have q2 : (x.ino != y.ino) = false := by simp [hii]
                  rw [if_neg (by simp [hkk, hii])] at HWN
                  by_cases hss : x.size = y.size
                  · have q3 : (x.size != y.size) = false := by simp [hss]
                    rw [if_neg (by simp [hss])] at HWN
                    by_cases hbs : x.bs = y.bs
                    · have q4 : (x.bs == y.bs) = true := by simpa using hbs
                      rw [if_neg (by simp [hbs])] at HWN
                      clear hkk hii hss hbs
                      go_wp2
                      go_meet
                      exact ⟨by rw [HWN.out], HB8.out, HC8.out⟩
                    · have q4 : (x.bs == y.bs) = false := by simpa using hbs
                      rw [if_pos (by simp [hbs])] at HWN
                      clear hkk hii hss hbs
                      go_wp2
                      go_meet
                      exact ⟨by rw [HWN.out], HB8.out, HC8.out⟩
                  · have q3 : (x.size != y.size) = true := by simp [hss]
                    rw [if_pos (by simp [hss])] at HWN
                    clear hkk hii hss
                    go_wp2
                    go_meet
                    exact ⟨by rw [HWN.out], HB8.out, HC8.out⟩
                · have q2 : (x.ino != y.ino) = true := by simp [hii]
                  rw [if_pos (by simp [hii])] at HWN
                  clear hkk hii
                  go_wp2
                  go_meet
                  exact ⟨by rw [HWN.out], HB8.out, HC8.out⟩
              · have q1 : (x.kind != y.kind) = true := by simp [hkk]
                rw [if_pos (by simp [hkk])] at HWN
                clear hkk
                go_wp2
                go_meet
                exact ⟨by rw [HWN.out], HB8.out, HC8.out⟩
          | false =>
            cases was with
            | true =>
              rw [if_neg (by simp), if_pos (by simp)] at HWN
              go_wp2
              go_meet
              exact ⟨by rw [HWN.out], HB8.out, HC8.out⟩
            | false =>
              rw [if_neg (by simp), if_neg (by simp)] at HWN
              unfold kindI at HWN
              by_cases hkk : x.kind = y.kind
              · have q1 : (x.kind != y.kind) = false := by simp [hkk]
                by_cases hii : x.ino = y.ino
                · have q2 : (x.ino != y.ino) = false := by simp [hii]
                  rw [if_neg (by simp [hkk, hii])] at HWN
                  by_cases hss : x.size = y.size
                  · have q3 : (x.size != y.size) = false := by simp [hss]
                    rw [if_neg (by simp [hss])] at HWN
                    by_cases hbs : x.bs = y.bs
                    · have q4 : (x.bs == y.bs) = true := by simpa using hbs
                      rw [if_neg (by simp [hbs])] at HWN
                      clear hkk hii hss hbs
                      go_wp2
                      go_meet
                      exact ⟨by rw [HWN.out], HB8.out, HC8.out⟩
                    · have q4 : (x.bs == y.bs) = false := by simpa using hbs
                      rw [if_pos (by simp [hbs])] at HWN
                      clear hkk hii hss hbs
                      go_wp2
                      go_meet
                      exact ⟨by rw [HWN.out], HB8.out, HC8.out⟩
                  · have q3 : (x.size != y.size) = true := by simp [hss]
                    rw [if_pos (by simp [hss])] at HWN
                    clear hkk hii hss
                    go_wp2
                    go_meet
                    exact ⟨by rw [HWN.out], HB8.out, HC8.out⟩
                · have q2 : (x.ino != y.ino) = true := by simp [hii]
                  rw [if_pos (by simp [hii])] at HWN
                  clear hkk hii
                  go_wp2
                  go_meet
                  exact ⟨by rw [HWN.out], HB8.out, HC8.out⟩
              · have q1 : (x.kind != y.kind) = true := by simp [hkk]
                rw [if_pos (by simp [hkk])] at HWN
                clear hkk
                go_wp2
                go_meet
                exact ⟨by rw [HWN.out], HB8.out, HC8.out⟩
        case rest =>
          obtain ⟨rfl, hbx, hcx⟩ := hcut
          have HBX2 := Lib.hid hbx
          have HCX := Lib.hid hcx
          clear hbx hcx HS1 HS2 HWN HX6 HX7 HX8 HY8 HBX HBY HC4 HC5 HC6 HC7 HC8 HB5 HB6 HB7 HB8
          have HGW := Lib.hid (got_want HP.out p)
          have HLT := Lib.hid (chs_lt HP.out)
          have HMM := Lib.hid (fun ch (h : ch ∈ chs (firstF xs) (firstF ys) ps) => chs_mem h)
          have hcl := HCX.out.1
          generalize hcs : chs (firstF xs) (firstF ys) ps = cs at *
          have HCS := Lib.hid hcs
          clear hcs
          generalize wantI (firstF xs) (firstF ys) p = wv at *
          go_wp2
          go_loopw [13, 91] (fun v u wr => ∃ i : Nat, i ≤ k ∧ u = .int .i64 i ∧ v = .int .i64 (gotF (cs.take i) p) ∧ Changes wr X k cs ∧ Below w.heap.size w wr) (fun _ u _ => k - (intOf u).toNat)
          case atStart => exact ⟨0, Nat.zero_le _, rfl, rfl, HCX.out, HBX2.out⟩
          case round =>
            obtain ⟨i, hi, rfl, rfl, hc, hb⟩ := hrel
            have HCI := Lib.hid hc
            have HBI := Lib.hid hb
            clear hc hb
            by_cases hlt : i < k
            · obtain ⟨g, off, rfl, hgl, ch, hch, c0, c1⟩ := HCI.out.at hlt
              have HCH := Lib.hid hch
              obtain ⟨hm1, hm2, hm3⟩ := HMM.out ch (List.mem_of_getElem? hch)
              have hkr := chK_range (firstF xs) (firstF ys) ch.1
              rw [← hm2] at hkr
              have hk1 : ¬ ch.2 < 1 := by omega
              have hk5 : ¬ 5 < ch.2 := by omega
              have HIO := Lib.hid ((HP.out.2.2 ch.1).1 hm1)
              have HCA := Lib.hid (HCI.out.below ((Below.refl _ _).alloc (Nat.le_refl _) (.cells #[encStr ch.1, .int .i64 ch.2] 33)))
              have HBA := Lib.hid (HBI.out.alloc HBI.out.size (.cells #[encStr ch.1, .int .i64 ch.2] 33))
              have HPRE := Lib.hid (show ∀ (j : Nat) (d : Ch), cs[j]? = some d → j < i → Op.bytesLess d.1 ch.1 = true from fun j d hd hj => by
                obtain ⟨hj1, e1⟩ := List.getElem?_eq_some_iff.1 hd
                obtain ⟨hj2, e2⟩ := List.getElem?_eq_some_iff.1 HCH.out
                have := List.pairwise_iff_getElem.1 HLT.out j i hj1 hj2 hj
                rw [e1, e2] at this
                exact this)
              clear hch hm1 hm2 hm3 hkr
              have HGS := Lib.hid (show gotF (cs.take (i + 1)) p = if ch.1 = p then ch.2 else gotF (cs.take i) p from by rw [take_snoc' HCH.out, gotF_snoc])
              generalize hq9 : gotF (cs.take i) p = q at *
              clear hq9
              obtain ⟨q2, hq2⟩ : ∃ q2, q2 = if ch.1 = p then ch.2 else q := ⟨_, rfl⟩
              rw [← hq2] at HGS
              have HQ2 := Lib.hid hq2
              clear hq2
              have HXA := Lib.hid (B2.new wr ch)
              have HXD := Lib.hid (fun nn => HXA.out.below (drew_below (Below.refl _ _) nn))
              have HBD := Lib.hid (fun nn => drew_below HBA.out nn)
              have HCD := Lib.hid (fun nn => HCA.out.below (drew_below (Below.refl _ _) nn))
              unfold encStr at HXD HBD HCD
              by_cases heq : ch.1 = p
              · have hq : (ch.1 == p) = true := by simpa using heq
                have HEQ := Lib.hid heq
                clear heq
                by_cases hi0 : i = 0
                · subst hi0
                  have c0' : wr.cell? ⟨g, off, none⟩ = some (encStr ch.1) := by simpa using c0
                  have c1' : wr.cell? ⟨g, off + 1, none⟩ = some (.int .i64 ch.2) := by simpa using c1
                  cases hin : (firstF xs ch.1).isSome with
                  | true =>
                    have HFI := Lib.hid (fun (w1 : World) (hb : Below w.heap.size w w1) => (find_any c (H.out.below hb) (by omega) ch.1))
                    have HFJ := Lib.hid (fun (w1 : World) (hb : Below w.heap.size w w1) => (find_any c2 (H2.out.below hb) (by omega) ch.1))
                    rw [hin] at HFI
                    generalize (firstF xs ch.1).getD It.zero = x at *
                    generalize (firstF ys ch.1).getD It.zero = y at *
                    unfold itV itC encStr at HFI HFJ
                    generalize (firstF ys ch.1).isSome = ob at *
                    go_upto_region 25 with fail
                    go_quiet (fail)
                    go_wp2_with (go_at_call 9; first
                      | (with_reducible refine (HFI.out _ (HBD.out _)).mono ?_; rintro e w5 ⟨rfl, hb⟩; have HB5 := Lib.hid ((HBD.out _).trans (hb.mono (HBD.out _).size)); have HX5 := Lib.hid ((HXD.out _).below hb); have HC5 := Lib.hid ((HCD.out _).below hb); have HB6 := Lib.hid (HB5.out.alloc HB5.out.size (.cells #[Value.string ⟨⟨x.p⟩⟩, .int .i64 x.ino, .int .i64 x.kind, .int .i64 x.size, .slice x.a x.n x.c] 29)); have HX6 := Lib.hid (HX5.out.below ((Below.refl _ _).alloc (Nat.le_refl _) (.cells #[Value.string ⟨⟨x.p⟩⟩, .int .i64 x.ino, .int .i64 x.kind, .int .i64 x.size, .slice x.a x.n x.c] 29))); have HC6 := Lib.hid (HC5.out.below ((Below.refl _ _).alloc (Nat.le_refl _) (.cells #[Value.string ⟨⟨x.p⟩⟩, .int .i64 x.ino, .int .i64 x.kind, .int .i64 x.size, .slice x.a x.n x.c] 29))); have p0 := HX5.out.c0; have p1 := HX5.out.c1; have pl := HX5.out.lt; clear hb)
                      | (with_reducible refine (HFJ.out _ HB6.out).mono ?_; rintro e w7 ⟨rfl, hb⟩; have HB7 := Lib.hid (HB6.out.trans (hb.mono HB6.out.size)); have HX7 := Lib.hid (HX6.out.below hb); have HC7 := Lib.hid (HC6.out.below hb); have HB8 := Lib.hid (HB7.out.alloc HB7.out.size (.cells #[Value.string ⟨⟨y.p⟩⟩, .int .i64 y.ino, .int .i64 y.kind, .int .i64 y.size, .slice y.a y.n y.c] 29)); have HC8 := Lib.hid (HC7.out.below ((Below.refl _ _).alloc (Nat.le_refl _) (.cells #[Value.string ⟨⟨y.p⟩⟩, .int .i64 y.ino, .int .i64 y.kind, .int .i64 y.size, .slice y.a y.n y.c] 29))); have r0 := HX7.out.c0; have r1 := HX7.out.c1; have rl := HX7.out.lt; clear hb))
                    go_roundw
                    case rel => exact ⟨0 + 1, by omega, by go_num, by rw [HGS.out, HQ2.out]; rw [if_pos HEQ.out], HC8.out, HB8.out⟩
                    case measure => simp [intOf]; omega
                  | false =>
                    have hout : (firstF ys ch.1).isSome = true := by rcases HIO.out with h | h; (rw [hin] at h; cases h); exact h
                    have HFI := Lib.hid (fun (w1 : World) (hb : Below w.heap.size w w1) => (find_any c (H.out.below hb) (by omega) ch.1))
                    have HFJ := Lib.hid (fun (w1 : World) (hb : Below w.heap.size w w1) => (find_any c2 (H2.out.below hb) (by omega) ch.1))
                    rw [hin] at HFI
                    rw [hout] at HFJ
                    generalize (firstF xs ch.1).getD It.zero = x at *
                    generalize (firstF ys ch.1).getD It.zero = y at *
                    unfold itV itC encStr at HFI HFJ
                    go_upto_region 25 with fail
                    go_quiet (fail)
                    go_wp2_with (go_at_call 9; first
                      | (with_reducible refine (HFI.out _ (HBD.out _)).mono ?_; rintro e w5 ⟨rfl, hb⟩; have HB5 := Lib.hid ((HBD.out _).trans (hb.mono (HBD.out _).size)); have HX5 := Lib.hid ((HXD.out _).below hb); have HC5 := Lib.hid ((HCD.out _).below hb); have HB6 := Lib.hid (HB5.out.alloc HB5.out.size (.cells #[Value.string ⟨⟨x.p⟩⟩, .int .i64 x.ino, .int .i64 x.kind, .int .i64 x.size, .slice x.a x.n x.c] 29)); have HX6 := Lib.hid (HX5.out.below ((Below.refl _ _).alloc (Nat.le_refl _) (.cells #[Value.string ⟨⟨x.p⟩⟩, .int .i64 x.ino, .int .i64 x.kind, .int .i64 x.size, .slice x.a x.n x.c] 29))); have HC6 := Lib.hid (HC5.out.below ((Below.refl _ _).alloc (Nat.le_refl _) (.cells #[Value.string ⟨⟨x.p⟩⟩, .int .i64 x.ino, .int .i64 x.kind, .int .i64 x.size, .slice x.a x.n x.c] 29))); have p0 := HX5.out.c0; have p1 := HX5.out.c1; have pl := HX5.out.lt; clear hb)
                      | (with_reducible refine (HFJ.out _ HB6.out).mono ?_; rintro e w7 ⟨rfl, hb⟩; have HB7 := Lib.hid (HB6.out.trans (hb.mono HB6.out.size)); have HX7 := Lib.hid (HX6.out.below hb); have HC7 := Lib.hid (HC6.out.below hb); have HB8 := Lib.hid (HB7.out.alloc HB7.out.size (.cells #[Value.string ⟨⟨y.p⟩⟩, .int .i64 y.ino, .int .i64 y.kind, .int .i64 y.size, .slice y.a y.n y.c] 29)); have HC8 := Lib.hid (HC7.out.below ((Below.refl _ _).alloc (Nat.le_refl _) (.cells #[Value.string ⟨⟨y.p⟩⟩, .int .i64 y.ino, .int .i64 y.kind, .int .i64 y.size, .slice y.a y.n y.c] 29))); have r0 := HX7.out.c0; have r1 := HX7.out.c1; have rl := HX7.out.lt; clear hb))
                    go_roundw
                    case rel => exact ⟨0 + 1, by omega, by go_num, by rw [HGS.out, HQ2.out]; rw [if_pos HEQ.out], HC8.out, HB8.out⟩
                    case measure => simp [intOf]; omega
                · obtain ⟨i', rfl⟩ : ∃ i', i = i' + 1 := ⟨i - 1, by omega⟩
                  obtain ⟨g2, off2, e2, hgl2, d, hd, d0, d1⟩ := HCI.out.at (show i' < k by omega)
                  cases e2
                  unfold encStr at d0
                  have hbl := HPRE.out i' d hd (by omega)
                  have hw1 : IntKind.i64.wrap ((i' : Int) + 1 - 1) = i' := by rw [show (i' : Int) + 1 - 1 = i' by omega]; exact IntWalk.i64_in _ (by omega)
                  have hw2 : IntKind.i64.wrap (i' : Int) = i' := IntWalk.i64_in _ (by omega)
                  have hi1 : (0 : Int) < (i' : Int) + 1 := by omega
                  have hi2 : (0 : Int) ≤ (i' : Int) := by omega
                  have hi3 : (i' : Int) < k := by omega
                  clear hd
                  cases hin : (firstF xs ch.1).isSome with
                  | true =>
                    have HFI := Lib.hid (fun (w1 : World) (hb : Below w.heap.size w w1) => (find_any c (H.out.below hb) (by omega) ch.1))
                    have HFJ := Lib.hid (fun (w1 : World) (hb : Below w.heap.size w w1) => (find_any c2 (H2.out.below hb) (by omega) ch.1))
                    rw [hin] at HFI
                    generalize (firstF xs ch.1).getD It.zero = x at *
                    generalize (firstF ys ch.1).getD It.zero = y at *
                    unfold itV itC encStr at HFI HFJ
                    generalize (firstF ys ch.1).isSome = ob at *
                    go_upto_region 25 with fail
                    go_quiet (fail)
                    go_wp2_with (go_at_call 9; first
                      | (with_reducible refine (HFI.out _ (HBD.out _)).mono ?_; rintro e w5 ⟨rfl, hb⟩; have HB5 := Lib.hid ((HBD.out _).trans (hb.mono (HBD.out _).size)); have HX5 := Lib.hid ((HXD.out _).below hb); have HC5 := Lib.hid ((HCD.out _).below hb); have HB6 := Lib.hid (HB5.out.alloc HB5.out.size (.cells #[Value.string ⟨⟨x.p⟩⟩, .int .i64 x.ino, .int .i64 x.kind, .int .i64 x.size, .slice x.a x.n x.c] 29)); have HX6 := Lib.hid (HX5.out.below ((Below.refl _ _).alloc (Nat.le_refl _) (.cells #[Value.string ⟨⟨x.p⟩⟩, .int .i64 x.ino, .int .i64 x.kind, .int .i64 x.size, .slice x.a x.n x.c] 29))); have HC6 := Lib.hid (HC5.out.below ((Below.refl _ _).alloc (Nat.le_refl _) (.cells #[Value.string ⟨⟨x.p⟩⟩, .int .i64 x.ino, .int .i64 x.kind, .int .i64 x.size, .slice x.a x.n x.c] 29))); have p0 := HX5.out.c0; have p1 := HX5.out.c1; have pl := HX5.out.lt; clear hb)
                      | (with_reducible refine (HFJ.out _ HB6.out).mono ?_; rintro e w7 ⟨rfl, hb⟩; have HB7 := Lib.hid (HB6.out.trans (hb.mono HB6.out.size)); have HX7 := Lib.hid (HX6.out.below hb); have HC7 := Lib.hid (HC6.out.below hb); have HB8 := Lib.hid (HB7.out.alloc HB7.out.size (.cells #[Value.string ⟨⟨y.p⟩⟩, .int .i64 y.ino, .int .i64 y.kind, .int .i64 y.size, .slice y.a y.n y.c] 29)); have HC8 := Lib.hid (HC7.out.below ((Below.refl _ _).alloc (Nat.le_refl _) (.cells #[Value.string ⟨⟨y.p⟩⟩, .int .i64 y.ino, .int .i64 y.kind, .int .i64 y.size, .slice y.a y.n y.c] 29))); have r0 := HX7.out.c0; have r1 := HX7.out.c1; have rl := HX7.out.lt; clear hb))
                    go_roundw
                    case rel => exact ⟨i' + 1 + 1, by omega, by go_num, by rw [HGS.out, HQ2.out]; rw [if_pos HEQ.out], HC8.out, HB8.out⟩
                    case measure => simp [intOf]; omega
                  | false =>
                    have hout : (firstF ys ch.1).isSome = true := by rcases HIO.out with h | h; (rw [hin] at h; cases h); exact h
                    have HFI := Lib.hid (fun (w1 : World) (hb : Below w.heap.size w w1) => (find_any c (H.out.below hb) (by omega) ch.1))
                    have HFJ := Lib.hid (fun (w1 : World) (hb : Below w.heap.size w w1) => (find_any c2 (H2.out.below hb) (by omega) ch.1))
                    rw [hin] at HFI
                    rw [hout] at HFJ
                    generalize (firstF xs ch.1).getD It.zero = x at *
                    generalize (firstF ys ch.1).getD It.zero = y at *
                    unfold itV itC encStr at HFI HFJ
                    go_upto_region 25 with fail
                    go_quiet (fail)
                    go_wp2_with (go_at_call 9; first
                      | (with_reducible refine (HFI.out _ (HBD.out _)).mono ?_; rintro e w5 ⟨rfl, hb⟩; have HB5 := Lib.hid ((HBD.out _).trans (hb.mono (HBD.out _).size)); have HX5 := Lib.hid ((HXD.out _).below hb); have HC5 := Lib.hid ((HCD.out _).below hb); have HB6 := Lib.hid (HB5.out.alloc HB5.out.size (.cells #[Value.string ⟨⟨x.p⟩⟩, .int .i64 x.ino, .int .i64 x.kind, .int .i64 x.size, .slice x.a x.n x.c] 29)); have HX6 := Lib.hid (HX5.out.below ((Below.refl _ _).alloc (Nat.le_refl _) (.cells #[Value.string ⟨⟨x.p⟩⟩, .int .i64 x.ino, .int .i64 x.kind, .int .i64 x.size, .slice x.a x.n x.c] 29))); have HC6 := Lib.hid (HC5.out.below ((Below.refl _ _).alloc (Nat.le_refl _) (.cells #[Value.string ⟨⟨x.p⟩⟩, .int .i64 x.ino, .int .i64 x.kind, .int .i64 x.size, .slice x.a x.n x.c] 29))); have p0 := HX5.out.c0; have p1 := HX5.out.c1; have pl := HX5.out.lt; clear hb)
                      | (with_reducible refine (HFJ.out _ HB6.out).mono ?_; rintro e w7 ⟨rfl, hb⟩; have HB7 := Lib.hid (HB6.out.trans (hb.mono HB6.out.size)); have HX7 := Lib.hid (HX6.out.below hb); have HC7 := Lib.hid (HC6.out.below hb); have HB8 := Lib.hid (HB7.out.alloc HB7.out.size (.cells #[Value.string ⟨⟨y.p⟩⟩, .int .i64 y.ino, .int .i64 y.kind, .int .i64 y.size, .slice y.a y.n y.c] 29)); have HC8 := Lib.hid (HC7.out.below ((Below.refl _ _).alloc (Nat.le_refl _) (.cells #[Value.string ⟨⟨y.p⟩⟩, .int .i64 y.ino, .int .i64 y.kind, .int .i64 y.size, .slice y.a y.n y.c] 29))); have r0 := HX7.out.c0; have r1 := HX7.out.c1; have rl := HX7.out.lt; clear hb))
                    go_roundw
                    case rel => exact ⟨i' + 1 + 1, by omega, by go_num, by rw [HGS.out, HQ2.out]; rw [if_pos HEQ.out], HC8.out, HB8.out⟩
                    case measure => simp [intOf]; omega
              · have hq : (ch.1 == p) = false := by simpa using heq
                have HEQ := Lib.hid heq
                clear heq
                by_cases hi0 : i = 0
                · subst hi0
                  have c0' : wr.cell? ⟨g, off, none⟩ = some (encStr ch.1) := by simpa using c0
                  have c1' : wr.cell? ⟨g, off + 1, none⟩ = some (.int .i64 ch.2) := by simpa using c1
                  cases hin : (firstF xs ch.1).isSome with
                  | true =>
                    have HFI := Lib.hid (fun (w1 : World) (hb : Below w.heap.size w w1) => (find_any c (H.out.below hb) (by omega) ch.1))
                    have HFJ := Lib.hid (fun (w1 : World) (hb : Below w.heap.size w w1) => (find_any c2 (H2.out.below hb) (by omega) ch.1))
                    rw [hin] at HFI
                    generalize (firstF xs ch.1).getD It.zero = x at *
                    generalize (firstF ys ch.1).getD It.zero = y at *
                    unfold itV itC encStr at HFI HFJ
                    generalize (firstF ys ch.1).isSome = ob at *
                    go_upto_region 25 with fail
                    go_quiet (fail)
                    go_wp2_with (go_at_call 9; first
                      | (with_reducible refine (HFI.out _ (HBD.out _)).mono ?_; rintro e w5 ⟨rfl, hb⟩; have HB5 := Lib.hid ((HBD.out _).trans (hb.mono (HBD.out _).size)); have HX5 := Lib.hid ((HXD.out _).below hb); have HC5 := Lib.hid ((HCD.out _).below hb); have HB6 := Lib.hid (HB5.out.alloc HB5.out.size (.cells #[Value.string ⟨⟨x.p⟩⟩, .int .i64 x.ino, .int .i64 x.kind, .int .i64 x.size, .slice x.a x.n x.c] 29)); have HX6 := Lib.hid (HX5.out.below ((Below.refl _ _).alloc (Nat.le_refl _) (.cells #[Value.string ⟨⟨x.p⟩⟩, .int .i64 x.ino, .int .i64 x.kind, .int .i64 x.size, .slice x.a x.n x.c] 29))); have HC6 := Lib.hid (HC5.out.below ((Below.refl _ _).alloc (Nat.le_refl _) (.cells #[Value.string ⟨⟨x.p⟩⟩, .int .i64 x.ino, .int .i64 x.kind, .int .i64 x.size, .slice x.a x.n x.c] 29))); have p0 := HX5.out.c0; have p1 := HX5.out.c1; have pl := HX5.out.lt; clear hb)
                      | (with_reducible refine (HFJ.out _ HB6.out).mono ?_; rintro e w7 ⟨rfl, hb⟩; have HB7 := Lib.hid (HB6.out.trans (hb.mono HB6.out.size)); have HX7 := Lib.hid (HX6.out.below hb); have HC7 := Lib.hid (HC6.out.below hb); have HB8 := Lib.hid (HB7.out.alloc HB7.out.size (.cells #[Value.string ⟨⟨y.p⟩⟩, .int .i64 y.ino, .int .i64 y.kind, .int .i64 y.size, .slice y.a y.n y.c] 29)); have HC8 := Lib.hid (HC7.out.below ((Below.refl _ _).alloc (Nat.le_refl _) (.cells #[Value.string ⟨⟨y.p⟩⟩, .int .i64 y.ino, .int .i64 y.kind, .int .i64 y.size, .slice y.a y.n y.c] 29))); have r0 := HX7.out.c0; have r1 := HX7.out.c1; have rl := HX7.out.lt; clear hb))
                    go_roundw
                    case rel => exact ⟨0 + 1, by omega, by go_num, by rw [HGS.out, HQ2.out]; rw [if_neg HEQ.out], HC8.out, HB8.out⟩
                    case measure => simp [intOf]; omega
                  | false =>
                    have hout : (firstF ys ch.1).isSome = true := by rcases HIO.out with h | h; (rw [hin] at h; cases h); exact h
                    have HFI := Lib.hid (fun (w1 : World) (hb : Below w.heap.size w w1) => (find_any c (H.out.below hb) (by omega) ch.1))
                    have HFJ := Lib.hid (fun (w1 : World) (hb : Below w.heap.size w w1) => (find_any c2 (H2.out.below hb) (by omega) ch.1))
                    rw [hin] at HFI
                    rw [hout] at HFJ
                    generalize (firstF xs ch.1).getD It.zero = x at *
                    generalize (firstF ys ch.1).getD It.zero = y at *
                    unfold itV itC encStr at HFI HFJ
                    go_upto_region 25 with fail
                    go_quiet (fail)
                    go_wp2_with (go_at_call 9; first
                      | (with_reducible refine (HFI.out _ (HBD.out _)).mono ?_; rintro e w5 ⟨rfl, hb⟩; have HB5 := Lib.hid ((HBD.out _).trans (hb.mono (HBD.out _).size)); have HX5 := Lib.hid ((HXD.out _).below hb); have HC5 := Lib.hid ((HCD.out _).below hb); have HB6 := Lib.hid (HB5.out.alloc HB5.out.size (.cells #[Value.string ⟨⟨x.p⟩⟩, .int .i64 x.ino, .int .i64 x.kind, .int .i64 x.size, .slice x.a x.n x.c] 29)); have HX6 := Lib.hid (HX5.out.below ((Below.refl _ _).alloc (Nat.le_refl _) (.cells #[Value.string ⟨⟨x.p⟩⟩, .int .i64 x.ino, .int .i64 x.kind, .int .i64 x.size, .slice x.a x.n x.c] 29))); have HC6 := Lib.hid (HC5.out.below ((Below.refl _ _).alloc (Nat.le_refl _) (.cells #[Value.string ⟨⟨x.p⟩⟩, .int .i64 x.ino, .int .i64 x.kind, .int .i64 x.size, .slice x.a x.n x.c] 29))); have p0 := HX5.out.c0; have p1 := HX5.out.c1; have pl := HX5.out.lt; clear hb)
                      | (with_reducible refine (HFJ.out _ HB6.out).mono ?_; rintro e w7 ⟨rfl, hb⟩; have HB7 := Lib.hid (HB6.out.trans (hb.mono HB6.out.size)); have HX7 := Lib.hid (HX6.out.below hb); have HC7 := Lib.hid (HC6.out.below hb); have HB8 := Lib.hid (HB7.out.alloc HB7.out.size (.cells #[Value.string ⟨⟨y.p⟩⟩, .int .i64 y.ino, .int .i64 y.kind, .int .i64 y.size, .slice y.a y.n y.c] 29)); have HC8 := Lib.hid (HC7.out.below ((Below.refl _ _).alloc (Nat.le_refl _) (.cells #[Value.string ⟨⟨y.p⟩⟩, .int .i64 y.ino, .int .i64 y.kind, .int .i64 y.size, .slice y.a y.n y.c] 29))); have r0 := HX7.out.c0; have r1 := HX7.out.c1; have rl := HX7.out.lt; clear hb))
                    go_roundw
                    case rel => exact ⟨0 + 1, by omega, by go_num, by rw [HGS.out, HQ2.out]; rw [if_neg HEQ.out], HC8.out, HB8.out⟩
                    case measure => simp [intOf]; omega
                · obtain ⟨i', rfl⟩ : ∃ i', i = i' + 1 := ⟨i - 1, by omega⟩
                  obtain ⟨g2, off2, e2, hgl2, d, hd, d0, d1⟩ := HCI.out.at (show i' < k by omega)
                  cases e2
                  unfold encStr at d0
                  have hbl := HPRE.out i' d hd (by omega)
                  have hw1 : IntKind.i64.wrap ((i' : Int) + 1 - 1) = i' := by rw [show (i' : Int) + 1 - 1 = i' by omega]; exact IntWalk.i64_in _ (by omega)
                  have hw2 : IntKind.i64.wrap (i' : Int) = i' := IntWalk.i64_in _ (by omega)
                  have hi1 : (0 : Int) < (i' : Int) + 1 := by omega
                  have hi2 : (0 : Int) ≤ (i' : Int) := by omega
                  have hi3 : (i' : Int) < k := by omega
                  clear hd
                  cases hin : (firstF xs ch.1).isSome with
                  | true =>
                    have HFI := Lib.hid (fun (w1 : World) (hb : Below w.heap.size w w1) => (find_any c (H.out.below hb) (by omega) ch.1))
                    have HFJ := Lib.hid (fun (w1 : World) (hb : Below w.heap.size w w1) => (find_any c2 (H2.out.below hb) (by omega) ch.1))
                    rw [hin] at HFI
                    generalize (firstF xs ch.1).getD It.zero = x at *
                    generalize (firstF ys ch.1).getD It.zero = y at *
                    unfold itV itC encStr at HFI HFJ
                    generalize (firstF ys ch.1).isSome = ob at *
                    go_upto_region 25 with fail
                    go_quiet (fail)
                    go_wp2_with (go_at_call 9; first
                      | (with_reducible refine (HFI.out _ (HBD.out _)).mono ?_; rintro e w5 ⟨rfl, hb⟩; have HB5 := Lib.hid ((HBD.out _).trans (hb.mono (HBD.out _).size)); have HX5 := Lib.hid ((HXD.out _).below hb); have HC5 := Lib.hid ((HCD.out _).below hb); have HB6 := Lib.hid (HB5.out.alloc HB5.out.size (.cells #[Value.string ⟨⟨x.p⟩⟩, .int .i64 x.ino, .int .i64 x.kind, .int .i64 x.size, .slice x.a x.n x.c] 29)); have HX6 := Lib.hid (HX5.out.below ((Below.refl _ _).alloc (Nat.le_refl _) (.cells #[Value.string ⟨⟨x.p⟩⟩, .int .i64 x.ino, .int .i64 x.kind, .int .i64 x.size, .slice x.a x.n x.c] 29))); have HC6 := Lib.hid (HC5.out.below ((Below.refl _ _).alloc (Nat.le_refl _) (.cells #[Value.string ⟨⟨x.p⟩⟩, .int .i64 x.ino, .int .i64 x.kind, .int .i64 x.size, .slice x.a x.n x.c] 29))); have p0 := HX5.out.c0; have p1 := HX5.out.c1; have pl := HX5.out.lt; clear hb)
                      | (with_reducible refine (HFJ.out _ HB6.out).mono ?_; rintro e w7 ⟨rfl, hb⟩; have HB7 := Lib.hid (HB6.out.trans (hb.mono HB6.out.size)); have HX7 := Lib.hid (HX6.out.below hb); have HC7 := Lib.hid (HC6.out.below hb); have HB8 := Lib.hid (HB7.out.alloc HB7.out.size (.cells #[Value.string ⟨⟨y.p⟩⟩, .int .i64 y.ino, .int .i64 y.kind, .int .i64 y.size, .slice y.a y.n y.c] 29)); have HC8 := Lib.hid (HC7.out.below ((Below.refl _ _).alloc (Nat.le_refl _) (.cells #[Value.string ⟨⟨y.p⟩⟩, .int .i64 y.ino, .int .i64 y.kind, .int .i64 y.size, .slice y.a y.n y.c] 29))); have r0 := HX7.out.c0; have r1 := HX7.out.c1; have rl := HX7.out.lt; clear hb))
                    go_roundw
                    case rel => exact ⟨i' + 1 + 1, by omega, by go_num, by rw [HGS.out, HQ2.out]; rw [if_neg HEQ.out], HC8.out, HB8.out⟩
                    case measure => simp [intOf]; omega
                  | false =>
                    have hout : (firstF ys ch.1).isSome = true := by rcases HIO.out with h | h; (rw [hin] at h; cases h); exact h
                    have HFI := Lib.hid (fun (w1 : World) (hb : Below w.heap.size w w1) => (find_any c (H.out.below hb) (by omega) ch.1))
                    have HFJ := Lib.hid (fun (w1 : World) (hb : Below w.heap.size w w1) => (find_any c2 (H2.out.below hb) (by omega) ch.1))
                    rw [hin] at HFI
                    rw [hout] at HFJ
                    generalize (firstF xs ch.1).getD It.zero = x at *
                    generalize (firstF ys ch.1).getD It.zero = y at *
                    unfold itV itC encStr at HFI HFJ
                    go_upto_region 25 with fail
                    go_quiet (fail)
                    go_wp2_with (go_at_call 9; first
                      | (with_reducible refine (HFI.out _ (HBD.out _)).mono ?_; rintro e w5 ⟨rfl, hb⟩; have HB5 := Lib.hid ((HBD.out _).trans (hb.mono (HBD.out _).size)); have HX5 := Lib.hid ((HXD.out _).below hb); have HC5 := Lib.hid ((HCD.out _).below hb); have HB6 := Lib.hid (HB5.out.alloc HB5.out.size (.cells #[Value.string ⟨⟨x.p⟩⟩, .int .i64 x.ino, .int .i64 x.kind, .int .i64 x.size, .slice x.a x.n x.c] 29)); have HX6 := Lib.hid (HX5.out.below ((Below.refl _ _).alloc (Nat.le_refl _) (.cells #[Value.string ⟨⟨x.p⟩⟩, .int .i64 x.ino, .int .i64 x.kind, .int .i64 x.size, .slice x.a x.n x.c] 29))); have HC6 := Lib.hid (HC5.out.below ((Below.refl _ _).alloc (Nat.le_refl _) (.cells #[Value.string ⟨⟨x.p⟩⟩, .int .i64 x.ino, .int .i64 x.kind, .int .i64 x.size, .slice x.a x.n x.c] 29))); have p0 := HX5.out.c0; have p1 := HX5.out.c1; have pl := HX5.out.lt; clear hb)
                      | (with_reducible refine (HFJ.out _ HB6.out).mono ?_; rintro e w7 ⟨rfl, hb⟩; have HB7 := Lib.hid (HB6.out.trans (hb.mono HB6.out.size)); have HX7 := Lib.hid (HX6.out.below hb); have HC7 := Lib.hid (HC6.out.below hb); have HB8 := Lib.hid (HB7.out.alloc HB7.out.size (.cells #[Value.string ⟨⟨y.p⟩⟩, .int .i64 y.ino, .int .i64 y.kind, .int .i64 y.size, .slice y.a y.n y.c] 29)); have HC8 := Lib.hid (HC7.out.below ((Below.refl _ _).alloc (Nat.le_refl _) (.cells #[Value.string ⟨⟨y.p⟩⟩, .int .i64 y.ino, .int .i64 y.kind, .int .i64 y.size, .slice y.a y.n y.c] 29))); have r0 := HX7.out.c0; have r1 := HX7.out.c1; have rl := HX7.out.lt; clear hb))
                    go_roundw
                    case rel => exact ⟨i' + 1 + 1, by omega, by go_num, by rw [HGS.out, HQ2.out]; rw [if_neg HEQ.out], HC8.out, HB8.out⟩
                    case measure => simp [intOf]; omega
            · obtain rfl : i = k := by omega
              have HTK := Lib.hid (show cs.take i = cs from by rw [← hcl]; exact List.take_length)
              have hge : gotF (cs.take i) p = wv := by rw [HTK.out]; exact HGW.out
              rw [hge]
              have HE := Lib.hid (fun (wr : World) (hb : Below w.heap.size w wr) => empty_any c c2 (H.out.below hb) (H2.out.below hb) (by omega) (by omega))
              have HCK := Lib.hid (List.length_eq_zero_iff (l := cs))
              rw [hcl] at HCK
              by_cases hk0 : i = 0
              · have HDE := Lib.hid (show decide (cs = []) = true from by simpa using HCK.out.1 hk0)
                have hkb : ((i : Int) == 0) = true := by simp [hk0]
                clear hk0
                go_wp2_with (go_at_call 10; refine (HE.out _ HBI.out).mono ?_; rintro e w9 ⟨ps2, hP2, rfl, hb9⟩; obtain rfl := hP2.uniq HP.out; rw [HCS.out, HDE.out]; have HB9 := Lib.hid (HBI.out.trans (hb9.mono HBI.out.size)); clear hP2 hb9)
                go_ret
                exact ⟨rfl, HB9.out⟩
              · have HDE := Lib.hid (show decide (cs = []) = false from by simpa using fun e => hk0 (HCK.out.2 e))
                have hkb : ((i : Int) == 0) = false := by simp [hk0]
                clear hk0
                go_wp2_with (go_at_call 10; refine (HE.out _ HBI.out).mono ?_; rintro e w9 ⟨ps2, hP2, rfl, hb9⟩; obtain rfl := hP2.uniq HP.out; rw [HCS.out, HDE.out]; have HB9 := Lib.hid (HBI.out.trans (hb9.mono HBI.out.size)); clear hP2 hb9)
                go_ret
                exact ⟨rfl, HB9.out⟩
end Go.Proofs.Ytdnmacehfbjiiaa
