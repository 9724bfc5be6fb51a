/- What makes one tree of another one: the walk (package diff). -/
import Derived.Test.YtdnmacehfbjiiaaOf
namespace Go.Proofs.Ytdnmacehfbjiiaa
open Go.RowKit Go.Maps Go.Sort Go.Shelf

/-- What Of hands back. -/
def OfIs (fa fb : Str → Option It) (w : World) (e : Ending) (w' : World) : Prop :=
  ∃ ps X c m, PathsOf fa fb ps ∧ e = .returned (.slice X m c) ∧ Changes w' X m (chs fa fb ps) ∧ m ≤ 2000 ∧ Below w.heap.size w w'

/-- Between two rounds over the second map. -/
structure KR (B : Nat) (w0 wr : World) (b2 r n2 : Nat) (L2 : List Value) (D2 : DataW Unit) (P : Str → Bool) (ks : List Str) (N : Nat) (v : Value) (cnt : Nat) (seen : List Str) (left : Lit → Bool) : Prop where
  rg : wr.ranges Try.prog 9 (tabR L2) b2 r n2 D2 left cnt
  col : Collected D2 left seen
  row : wr.ownsRow B 9 1 v (ks ++ seen.filter P).length ((ks ++ seen.filter P).map encStr)
  bel : Below B w0 wr
  sz : seen.length + cnt ≤ N
theorem KR.next {B : Nat} {w0 wr w5 : World} {b2 r n2 : Nat} {L2 : List Value} {D2 : DataW Unit} {P : Str → Bool} {ks : List Str} {N : Nat} {v : Value} {cnt cnt' : Nat} {seen : List Str} {left : Lit → Bool} (h : KR B w0 wr b2 r n2 L2 D2 P ks N v cnt seen left) (hB : B ≤ w0.heap.size) {x : Str} {y : DataW Unit}
    (hl : left (.string x) = true) (hat : ∀ zd, D2.atKey (.string x) zd = y) (_hrg : w5.ranges Try.prog 9 (tabR L2) b2 r n2 D2 (fun z => left z && !z.sameKey (.string x)) cnt') (hlt : cnt' < cnt) (hg : wr.grownBy w5 (some r)) (hr : B ≤ r) :
    Below B w0 w5 ∧ Collected D2 (fun z => left z && !z.sameKey (.string x)) (seen ++ [x]) ∧ w5.ownsRow B 9 1 v (ks ++ seen.filter P).length ((ks ++ seen.filter P).map encStr) ∧ (seen ++ [x]).length + cnt' ≤ N := by
  refine ⟨h.bel.grown hg (Nat.le_trans hB h.bel.size) (fun k hk => by cases hk; exact hr), h.col.step hl hat, h.row.kept hg ?_, ?_⟩
  · exact .inr (fun e => row_ne_iter h.row h.rg e.symm)
  · have := h.sz
    rw [List.length_append]
    simp
    omega
theorem filter_snoc_no {P : Str → Bool} {seen : List Str} {x : Str} (h : P x = false) : (seen ++ [x]).filter P = seen.filter P := by rw [List.filter_append]; simp [h]
theorem filter_snoc_yes {P : Str → Bool} {seen : List Str} {x : Str} (h : P x = true) : (seen ++ [x]).filter P = seen.filter P ++ [x] := by rw [List.filter_append]; simp [h]
theorem strKeys_len {R : Value → Option (DataW Unit × List MemPlace)} {b nn : Nat} {D0 : DataW Unit} {w : World} (hown : w.ownsMap Try.prog 9 R b nn D0) : (strKeys D0).length = Maps.size D0 := by
  obtain ⟨es, rfl⟩ := hown.isMap
  simp [strKeys, Maps.size]

theorem row_none {w w' : World} {base e size n : Nat} {v : Value} {xs : List Value} (h : w.ownsRow base e size v n xs) (hg : w.grownBy w' none) : w'.ownsRow base e size v n xs := by
  refine h.kept hg ?_
  cases v.ownBlock with
  | none => exact .inl rfl
  | some k => exact .inr (by simp)
set_option maxRecDepth 100000 in
set_option maxHeartbeats 16000000 in
theorem of_any {w : World} {A A2 : Option Addr} {n1 n2 : Nat} {xs ys : List It} (c c2 : Nat) (h : Items w A n1 xs) (h2 : Items w A2 n2 ys) (hn1 : n1 ≤ 1000) (hn2 : n2 ≤ 1000) : Calls Try.prog 8 #[.slice A n1 c, .slice A2 n2 c2] w (OfIs (firstF xs) (firstF ys) w) := by
  have H := Lib.hid h
  have H2 := Lib.hid h2
  clear h h2
  obtain ⟨i0, hi, hz0, hz1, hz2⟩ := info_parts info9
  obtain ⟨j0, hj0, hy0, hy1, hy2⟩ := info_parts info33
  have CF1 := Lib.hid (first_any c H.out (by omega))
  go_enter Try.func8, Try.ntmps8
  go_wp2_with (first
    | (go_at_call 16; first
      | (with_reducible refine (CF1.out).mono ?_; rintro e w1 ⟨rfl, hm1, hb1⟩; have HM1 := Lib.hid hm1; have HB1 := Lib.hid hb1; clear hm1 hb1)
      | (with_reducible refine (first_any c2 (H2.out.below HB1.out) (by omega)).mono ?_; rintro e w2 ⟨rfl, hm2, hb2⟩; have HM2 := Lib.hid hm2; have HM1b := Lib.hid (HM1.out.below hb2); have HB2 := Lib.hid (HB1.out.trans (hb2.mono HB1.out.size)); have HLT := Lib.hid (show w.heap.size < w2.heap.size ∧ w1.heap.size < w2.heap.size from ⟨Nat.lt_of_lt_of_le HM1.out.lt hb2.size, hm2.lt⟩); clear hm2 hb2))
    | (go_at_call 18; refine (keys_call (some w.heap.size) w2).mono ?_; rintro e w' ⟨rfl, hw⟩; rw [hw]; clear hw w'; obtain ⟨D1, hown1, hhas1, hat1⟩ := HM1b.out; have HO1 := Lib.hid hown1; have HH1 := Lib.hid hhas1; have hsz1 := hown1.size_le; clear hown1 hhas1 hat1)
    | (go_at_call 17; refine (collect_call w.heap.size _ D1 w2 HO1.out (by unfold maxLen; omega) (by omega)).mono ?_; rintro e w3 ⟨v3, ks, rfl, hP, hrow, hb3⟩; have HP := Lib.hid hP; have HR3 := Lib.hid hrow; have HB3 := Lib.hid hb3; obtain ⟨D2, hown2, hhas2, hat2⟩ := ((HM2.out.below ((Below.refl _ _).alloc (Nat.le_refl _) _)).below hb3); have HO2 := Lib.hid hown2; have HH2 := Lib.hid hhas2; have hsz2 := hown2.size_le; clear hP hrow hb3 hown2 hhas2 hat2)
    | (at_range; refine wpList_range_own _ rfl _ 45 rfl 9 29 keyed9 Try.underlying45 _ w1.heap.size _ D2 rfl HO2.out ?_; intro w4 hrg0 hg0 hs0)
    | go_in)
  have HM1w := Lib.hid (HM1b.out.below ((Below.refl _ _).alloc (Nat.le_refl _) (.cells #[.map (some w.heap.size)] 45)))
  have HM2w := Lib.hid (HM2.out.below ((Below.refl _ _).alloc (Nat.le_refl _) (.cells #[.map (some w.heap.size)] 45)))
  have HBW := Lib.hid (HB2.out.trans (((Below.refl _ _).alloc (Nat.le_refl _) (.cells #[.map (some w.heap.size)] 45)).mono HB2.out.size))
  have hkl : ks.length ≤ n1 := by rw [HP.out.length_eq, strKeys_len HO1.out]; exact hsz1
  generalize hw0 : w2.alloc (.cells #[.map (some w.heap.size)] 45) = w0 at *
  have HSZ := Lib.hid (show w0.heap.size = w2.heap.size + 1 from by rw [← hw0]; simp)
  clear hw0
  have HR := Lib.hid (show w0.heap.size ≤ w3.heap.size from HB3.out.size)
  have HK0 := Lib.hid (show KR w0.heap.size w0 w4 w1.heap.size w3.heap.size n2 (tabL ys) D2 (fun k => (firstF xs k).isNone) ks (size D2) v3 (size D2) [] (has D2) from
    ⟨hrg0, Collected.start D2, by rw [List.filter_nil, List.append_nil]; exact row_none HR3.out hg0, HB3.out.grown hg0 HB3.out.size (fun k hk => by cases hk), by simp⟩)
  clear HR3 hrg0 hg0 hs0 HM1 HM1b CF1 HM2
  go_frame
  go_loopw [7] (fun v wr => ∃ cnt seen left, KR w0.heap.size w0 wr w1.heap.size w3.heap.size n2 (tabL ys) D2 (fun k => (firstF xs k).isNone) ks (size D2) v cnt seen left) (fun _ wr => wr.rangeLeft w1.heap.size w3.heap.size)
  case atStart => exact ⟨_, [], _, HK0.out⟩
  case round =>
    clear HK0
    obtain ⟨cnt, seen, left, hK⟩ := hrel
    have HK := Lib.hid hK
    clear hK
    go_wp2_with (first
      | (at_next; refine wpList_next_ranges _ rfl _ rfl 9 keyed9 (tabR (tabL ys)) encStr id (fun key kl hk => by obtain ⟨x, hx, _⟩ := Maps.keyOf_str Try.underlying9 hk; exact ⟨x, hx⟩) (fun v y hv => ⟨v, rfl⟩) w1.heap.size w3.heap.size n2 D2 left cnt rfl HK.out.rg ?_ ?_)
      | go_in)
    · intro hc0 hl0
      have HSN := Lib.hid (show ∀ k, k ∈ seen ↔ (firstF ys k).isSome = true from fun k => by rw [HK.out.col.2 k, hl0, HH2.out k]; simp)
      have HKN := Lib.hid (show ∀ k, k ∈ ks ↔ (firstF xs k).isSome = true from fun k => by rw [HP.out.mem_iff, (strKeys_ok HO1.out).2 k, HH1.out k])
      have HPA := Lib.hid (show PathsOf (firstF xs) (firstF ys) ((ks ++ seen.filter (fun k => (firstF xs k).isNone)).mergeSort leB) from by
        refine pathsOf_sort ?_ (fun k => ?_)
        · refine List.nodup_append.2 ⟨HP.out.nodup_iff.2 (strKeys_ok HO1.out).1, HK.out.col.1.filter _, fun a ha b hb e => ?_⟩
          subst e
          have h1 := (HKN.out a).1 ha
          have h2 := (List.mem_filter.1 hb).2
          cases hh : firstF xs a with
          | none => rw [hh] at h1; cases h1
          | some z => rw [hh] at h2; cases h2
        · rw [List.mem_append, HKN.out, List.mem_filter, HSN.out]
          cases hh : firstF xs k <;> simp)
      have HLQ := Lib.hid (show (ks ++ seen.filter (fun k => (firstF xs k).isNone)).length ≤ 2000 from by
        have := HK.out.sz
        have := List.length_filter_le (fun k => (firstF xs k).isNone) seen
        rw [List.length_append]
        omega)
      have HROW0 := Lib.hid HK.out.row
      have HBR0 := Lib.hid HK.out.bel
      have HPL := Lib.hid (show ((ks ++ seen.filter (fun k => (firstF xs k).isNone)).mergeSort leB).length = (ks ++ seen.filter (fun k => (firstF xs k).isNone)).length from List.length_mergeSort _)
      clear hc0 hl0 HK HSN
      generalize hps : (ks ++ seen.filter (fun k => (firstF xs k).isNone)).mergeSort leB = ps at *
      generalize hpl : ks ++ seen.filter (fun k => (firstF xs k).isNone) = pl at *
      have HPS := Lib.hid hps
      clear hps hpl
      obtain ⟨X, cx, rfl⟩ := own_slice HROW0.out
      go_wp2_with (first
        | (go_at_call 19; refine (sort_call HROW0.out (by have := HLQ.out; omega)).mono ?_; rintro e w8 ⟨rfl, hrow, hg⟩; have HSX := Lib.hid (strs_of_row HPL.out (show w8.ownsRow w0.heap.size 9 1 (.slice X pl.length cx) pl.length (ps.map encStr) from by rw [← HPS.out]; exact hrow)); have HA1 := Lib.hid ((HM1w.out.below HBR0.out).kept hg (row_ne_low HROW0.out (by have := HLT.out; have := HSZ.out; omega))); have HA2 := Lib.hid ((HM2w.out.below HBR0.out).kept hg (row_ne_low HROW0.out (by have := HLT.out; have := HSZ.out; omega))); have HB8 := Lib.hid ((HBW.out.trans (HBR0.out.mono HBW.out.size)).grown hg (Nat.le_trans HBW.out.size HBR0.out.size) (fun k hk => Nat.le_trans HBW.out.size (HROW0.out.lt k hk).1)); clear hrow hg))
      go_loopw [11, 48] (fun o u wr => ∃ j : Nat, j ≤ pl.length ∧ u = .int .i64 j ∧ wr.ownsRow w8.heap.size 33 2 o (chs (firstF xs) (firstF ys) (ps.take j)).length (cellsC (chs (firstF xs) (firstF ys) (ps.take j))) ∧ Below w8.heap.size w8 wr) (fun _ u _ => pl.length - (intOf u).toNat)
      case atStart => exact ⟨0, Nat.zero_le _, rfl, World.ownsRow_nil _ _ _ _, Below.refl _ _⟩
      case round =>
        obtain ⟨j, hj, rfl, hown, hb⟩ := hrel
        have HOW := Lib.hid hown
        have HB9 := Lib.hid hb
        clear hown hb
        by_cases hlt : j < pl.length
        · have hjb : j ≤ 2000 := by have := HLQ.out; omega
          obtain ⟨g, off, rfl, hgl, q, hqj, c0⟩ := (HSX.out.below HB9.out).at hlt
          have HQJ := Lib.hid hqj
          have HQM := Lib.hid ((HPA.out.2.2 q).1 (List.mem_of_getElem? hqj))
          have HQL := Lib.hid (show q.length ≤ maxLen from by
            rcases HQM.out with h | h
            · obtain ⟨z, hz⟩ := Option.isSome_iff_exists.1 h
              obtain ⟨h1, h2⟩ := firstF_mem hz
              rw [← h2]
              exact (H.out.2.1 z h1).path
            · obtain ⟨z, hz⟩ := Option.isSome_iff_exists.1 h
              obtain ⟨h1, h2⟩ := firstF_mem hz
              rw [← h2]
              exact (H2.out.2.1 z h1).path)
          have HBA := Lib.hid (show Below w.heap.size w wr from HB8.out.trans (HB9.out.mono HB8.out.size))
          have hlk1 := (HA1.out.below HB9.out).look (zero_tabL xs) HQL.out
          have hG1 := (good_get H.out q).below HBA.out
          have hG2 := (good_get H2.out q).below HBA.out
          have hbx : ∀ z : It, Below wr.heap.size wr (wr.alloc (.cells (itC z) 29)) := fun z => (Below.refl _ _).alloc (Nat.le_refl _) _
          have hlk2 := ((HA2.out.below HB9.out).below (hbx ((firstF xs q).getD It.zero))).look (zero_tabL ys) HQL.out
          have hby : Below wr.heap.size wr ((wr.alloc (.cells (itC ((firstF xs q).getD It.zero)) 29)).alloc (.cells (itC ((firstF ys q).getD It.zero)) 29)) := (hbx _).alloc (hbx _).size _
          have CK := Lib.hid (kind_any (hG1.below hby) (hG2.below hby))
          have HBR := Lib.hid hby
          have HB11 := Lib.hid (HB9.out.trans (hby.mono HB9.out.size))
          have HROW := Lib.hid HOW.out
          have HCL := Lib.hid (show (chs (firstF xs) (firstF ys) (ps.take j)).length ≤ 2000 from by
            have h1 := chs_len (firstF xs) (firstF ys) (ps.take j)
            have h2 := HLQ.out
            have h3 := HPL.out
            rw [List.length_take] at h1
            omega)
          have HO1x := Lib.hid True.intro
          clear hqj hG1 hG2 hbx hby HOW
          generalize hgx : (firstF xs q).getD It.zero = zx at *
          generalize hgy : (firstF ys q).getD It.zero = zy at *
          have HGX := Lib.hid hgx
          have HGY := Lib.hid hgy
          clear hgx hgy
          unfold itV itC at *
          generalize hkk : kindI zx zy = kk at *
          have HKK := Lib.hid hkk
          clear hkk
          cases h1 : (firstF xs q).isSome with
          | false =>
            rw [h1] at hlk1
            cases h2 : (firstF ys q).isSome with
            | false => exact absurd HQM.out (by simp [h1, h2])
            | true =>
              rw [h2] at hlk2
              have HKV := Lib.hid (show chK (firstF xs) (firstF ys) q = 1 from by unfold chK; rw [if_pos h1])
              have HNZ := Lib.hid (show chK (firstF xs) (firstF ys) q ≠ 0 from by rw [HKV.out]; decide)
              clear HO1x
              go_wp2_with (first
                | (go_at_call 20; refine (CK.out).mono ?_; rintro e w12 ⟨rfl, hb12⟩; have HB12 := Lib.hid (HB11.out.trans (hb12.mono HB11.out.size)); have HRW := Lib.hid (row_none HROW.out (Below.grownBy (HBR.out.trans (hb12.mono HBR.out.size)))); clear hb12)
                | (at_builtin; refine wpList_append_own_at _ rfl _ _ 25 rfl w8.heap.size 33 j0 (.agg #[encStr [], .int .i64 0]) 2 24 Try.underlying25 hj0 hy0 hy1 hy2 rfl (by decide) _ (chs (firstF xs) (firstF ys) (ps.take j)).length (cellsC (chs (firstF xs) (firstF ys) (ps.take j))) rfl (HRW.out.alloc _) ⟨w12.heap.size, 0, none⟩ 1 1 [encStr q, .int .i64 (1)] rfl rfl (cell_two_new _ _ _ _) ?c2 ?c3 ?c4 ?c5 ?_))
              case c2 => intro u hu; simp only [List.mem_cons, List.not_mem_nil, or_false] at hu; rcases hu with rfl | rfl <;> rfl
              case c3 => have := HCL.out; unfold maxLen; omega
              case c4 => have := HCL.out; omega
              case c5 => have := HB12.out.size; simp; omega
              intro v14 w14 hown14 hgrow14 _ _
              have HB14 := Lib.hid ((HB12.out.alloc HB12.out.size (.cells #[encStr q, .int .i64 (1)] 33)).grown hgrow14 (by have := HB12.out.size; simp; omega) (fun k hk => (HROW.out.lt k hk).1))
              have HW14 := Lib.hid (show w14.ownsRow w8.heap.size 33 2 v14 (chs (firstF xs) (firstF ys) (ps.take (j + 1))).length (cellsC (chs (firstF xs) (firstF ys) (ps.take (j + 1)))) from by
                rw [take_snoc' HQJ.out, chs_snoc_yes HNZ.out, HKV.out, cellsC_append, List.length_append]
                exact hown14)
              clear hown14 hgrow14
              go_wp2
              go_roundw
              case rel => exact ⟨j + 1, by omega, by go_num, HW14.out, HB14.out⟩
              case measure => simp [intOf]; omega
          | true =>
            rw [h1] at hlk1
            cases h2 : (firstF ys q).isSome with
            | false =>
              rw [h2] at hlk2
              have HKV := Lib.hid (show chK (firstF xs) (firstF ys) q = 2 from by unfold chK; rw [if_neg (by rw [h1]; simp), if_pos h2])
              have HNZ := Lib.hid (show chK (firstF xs) (firstF ys) q ≠ 0 from by rw [HKV.out]; decide)
              clear HO1x
              go_wp2_with (first
                | (go_at_call 20; refine (CK.out).mono ?_; rintro e w12 ⟨rfl, hb12⟩; have HB12 := Lib.hid (HB11.out.trans (hb12.mono HB11.out.size)); have HRW := Lib.hid (row_none HROW.out (Below.grownBy (HBR.out.trans (hb12.mono HBR.out.size)))); clear hb12)
                | (at_builtin; refine wpList_append_own_at _ rfl _ _ 25 rfl w8.heap.size 33 j0 (.agg #[encStr [], .int .i64 0]) 2 24 Try.underlying25 hj0 hy0 hy1 hy2 rfl (by decide) _ (chs (firstF xs) (firstF ys) (ps.take j)).length (cellsC (chs (firstF xs) (firstF ys) (ps.take j))) rfl (HRW.out.alloc _) ⟨w12.heap.size, 0, none⟩ 1 1 [encStr q, .int .i64 (2)] rfl rfl (cell_two_new _ _ _ _) ?c2 ?c3 ?c4 ?c5 ?_))
              case c2 => intro u hu; simp only [List.mem_cons, List.not_mem_nil, or_false] at hu; rcases hu with rfl | rfl <;> rfl
              case c3 => have := HCL.out; unfold maxLen; omega
              case c4 => have := HCL.out; omega
              case c5 => have := HB12.out.size; simp; omega
              intro v14 w14 hown14 hgrow14 _ _
              have HB14 := Lib.hid ((HB12.out.alloc HB12.out.size (.cells #[encStr q, .int .i64 (2)] 33)).grown hgrow14 (by have := HB12.out.size; simp; omega) (fun k hk => (HROW.out.lt k hk).1))
              have HW14 := Lib.hid (show w14.ownsRow w8.heap.size 33 2 v14 (chs (firstF xs) (firstF ys) (ps.take (j + 1))).length (cellsC (chs (firstF xs) (firstF ys) (ps.take (j + 1)))) from by
                rw [take_snoc' HQJ.out, chs_snoc_yes HNZ.out, HKV.out, cellsC_append, List.length_append]
                exact hown14)
              clear hown14 hgrow14
              go_wp2
              go_roundw
              case rel => exact ⟨j + 1, by omega, by go_num, HW14.out, HB14.out⟩
              case measure => simp [intOf]; omega
            | true =>
              rw [h2] at hlk2
              by_cases hk0 : kk = 0
              · subst hk0
                have HKV := Lib.hid (show chK (firstF xs) (firstF ys) q = 0 from by unfold chK; rw [if_neg (by rw [h1]; simp), if_neg (by rw [h2]; simp), HGX.out, HGY.out]; exact HKK.out)
                clear HO1x h1 h2
                go_wp2_with (go_at_call 20; refine (CK.out).mono ?_; rintro e w12 ⟨rfl, hb12⟩; have HB12 := Lib.hid (HB11.out.trans (hb12.mono HB11.out.size)); have HRW := Lib.hid (row_none HROW.out (Below.grownBy (HBR.out.trans (hb12.mono HBR.out.size)))); clear hb12)
                go_roundw
                case rel => exact ⟨j + 1, by omega, by go_num, by rw [take_snoc' HQJ.out, chs_snoc_no HKV.out]; exact HRW.out, HB12.out⟩
                case measure => simp [intOf]; omega
              · have hkb : (kk != 0) = true := by simp [hk0]
                have HK0' := Lib.hid hk0
                clear hk0
                have HKV := Lib.hid (show chK (firstF xs) (firstF ys) q = kk from by unfold chK; rw [if_neg (by rw [h1]; simp), if_neg (by rw [h2]; simp), HGX.out, HGY.out]; exact HKK.out)
                have HNZ := Lib.hid (show chK (firstF xs) (firstF ys) q ≠ 0 from by rw [HKV.out]; exact HK0'.out)
                clear HO1x
                go_wp2_with (first
                  | (go_at_call 20; refine (CK.out).mono ?_; rintro e w12 ⟨rfl, hb12⟩; have HB12 := Lib.hid (HB11.out.trans (hb12.mono HB11.out.size)); have HRW := Lib.hid (row_none HROW.out (Below.grownBy (HBR.out.trans (hb12.mono HBR.out.size)))); clear hb12)
                  | (at_builtin; refine wpList_append_own_at _ rfl _ _ 25 rfl w8.heap.size 33 j0 (.agg #[encStr [], .int .i64 0]) 2 24 Try.underlying25 hj0 hy0 hy1 hy2 rfl (by decide) _ (chs (firstF xs) (firstF ys) (ps.take j)).length (cellsC (chs (firstF xs) (firstF ys) (ps.take j))) rfl (HRW.out.alloc _) ⟨w12.heap.size, 0, none⟩ 1 1 [encStr q, .int .i64 (kk)] rfl rfl (cell_two_new _ _ _ _) ?c2 ?c3 ?c4 ?c5 ?_))
                case c2 => intro u hu; simp only [List.mem_cons, List.not_mem_nil, or_false] at hu; rcases hu with rfl | rfl <;> rfl
                case c3 => have := HCL.out; unfold maxLen; omega
                case c4 => have := HCL.out; omega
                case c5 => have := HB12.out.size; simp; omega
                intro v14 w14 hown14 hgrow14 _ _
                have HB14 := Lib.hid ((HB12.out.alloc HB12.out.size (.cells #[encStr q, .int .i64 (kk)] 33)).grown hgrow14 (by have := HB12.out.size; simp; omega) (fun k hk => (HROW.out.lt k hk).1))
                have HW14 := Lib.hid (show w14.ownsRow w8.heap.size 33 2 v14 (chs (firstF xs) (firstF ys) (ps.take (j + 1))).length (cellsC (chs (firstF xs) (firstF ys) (ps.take (j + 1)))) from by
                  rw [take_snoc' HQJ.out, chs_snoc_yes HNZ.out, HKV.out, cellsC_append, List.length_append]
                  exact hown14)
                clear hown14 hgrow14
                go_wp2
                go_roundw
                case rel => exact ⟨j + 1, by omega, by go_num, HW14.out, HB14.out⟩
                case measure => simp [intOf]; omega
        · obtain rfl : j = pl.length := by omega
          have HTK := Lib.hid (show ps.take pl.length = ps from by rw [← HPL.out]; exact List.take_length)
          rw [HTK.out] at HOW
          obtain ⟨X9, c9, rfl⟩ := own_slice HOW.out
          have HCL := Lib.hid (show (chs (firstF xs) (firstF ys) ps).length ≤ 2000 from by
            have := chs_len (firstF xs) (firstF ys) ps
            have := HLQ.out
            have := HPL.out
            omega)
          go_wp2
          go_ret
          exact ⟨ps, X9, c9, _, HPA.out, rfl, changes_of_row rfl HOW.out, HCL.out, HB8.out.trans (HB9.out.mono HB8.out.size)⟩
    · intro x cv kl y yp w5 cnt' hkey hlk hv hat hrg1 hlt1 hg1 hs1 hen
      obtain ⟨x', hx', rfl, hxl⟩ := Maps.keyOf_str Try.underlying9 hkey
      obtain rfl := encStr_inj hx'
      obtain ⟨hb5, hc5, hr5, hz5⟩ := HK.out.next (Nat.le_refl _) hlk hat hrg1 hlt1 hg1 HR.out
      have HB5 := Lib.hid hb5
      have HC5 := Lib.hid hc5
      have HR5 := Lib.hid hr5
      have HZ5 := Lib.hid hz5
      have HG5 := Lib.hid hrg1
      have HL5 := Lib.hid hlt1
      have HLE := Lib.hid HK.out.rg.left_eq
      have hlook := (HM1w.out.below hb5).look (zero_tabL xs) hxl
      clear hkey hlk hv hat hrg1 hlt1 hg1 hs1 hb5 hc5 hr5 hz5 hx'
      cases hf : firstF xs x with
      | some z =>
        rw [hf] at hlook
        simp only [Option.getD_some, Option.isSome_some, itV, itC] at hlook
        have HF := Lib.hid (show (fun k => (firstF xs k).isNone) x = false from by show (firstF xs x).isNone = false; rw [hf]; rfl)
        have hb6 : Below w5.heap.size w5 (w5.alloc (.cells #[encStr z.p, .int .i64 z.ino, .int .i64 z.kind, .int .i64 z.size, .slice z.a z.n z.c] 29)) := (Below.refl _ _).alloc (Nat.le_refl _) _
        have HK6 := Lib.hid (show KR w0.heap.size w0 (w5.alloc (.cells #[encStr z.p, .int .i64 z.ino, .int .i64 z.kind, .int .i64 z.size, .slice z.a z.n z.c] 29)) w1.heap.size w3.heap.size n2 (tabL ys) D2 (fun k => (firstF xs k).isNone) ks (size D2) _ cnt' (seen ++ [x]) _ from
          ⟨HG5.out.alloc _, HC5.out, by rw [filter_snoc_no HF.out]; exact row_none HR5.out (Below.grownBy hb6), HB5.out.trans (hb6.mono HB5.out.size), HZ5.out⟩)
        clear hb6 hf
        go_wp2
        go_roundw
        case rel => exact ⟨_, _, _, HK6.out⟩
        case measure => rw [HK6.out.rg.left_eq, HLE.out]; exact HL5.out
      | none =>
        rw [hf] at hlook
        simp only [Option.getD_none, Option.isSome_none, itV, itC, It.zero] at hlook
        have HF := Lib.hid (show (fun k => (firstF xs k).isNone) x = true from by show (firstF xs x).isNone = true; rw [hf]; rfl)
        have hb6 : Below w5.heap.size w5 ((w5.alloc (.cells #[encStr [], .int .i64 0, .int .i64 0, .int .i64 0, .slice none 0 0] 29)).alloc (.cells #[encStr x] 9)) := ((Below.refl _ _).alloc (Nat.le_refl _) _).alloc (by simp) _
        have HG7 := Lib.hid ((HG5.out.alloc (.cells #[encStr [], .int .i64 0, .int .i64 0, .int .i64 0, .slice none 0 0] 29)).alloc (.cells #[encStr x] 9))
        have HR7 := Lib.hid (row_none HR5.out (Below.grownBy hb6))
        have HB7 := Lib.hid (HB5.out.trans (hb6.mono HB5.out.size))
        have HLQ := Lib.hid (show (ks ++ seen.filter (fun k => (firstF xs k).isNone)).length ≤ 2000 from by
          have := HK.out.sz
          have := List.length_filter_le (fun k => (firstF xs k).isNone) seen
          rw [List.length_append]
          omega)
        clear hb6 hf
        go_wp2_with (first
          | (at_builtin; refine wpList_append_own_at _ rfl _ _ 39 rfl w0.heap.size 9 i0 (encStr []) 1 16 Try.underlying39 hi hz0 hz1 hz2 rfl (by decide) _ (ks ++ seen.filter (fun k => (firstF xs k).isNone)).length ((ks ++ seen.filter (fun k => (firstF xs k).isNone)).map encStr) rfl HR7.out ⟨w5.heap.size + 1, 0, none⟩ 1 1 [encStr x] rfl rfl ?d1 ?d2 ?d3 ?d4 ?d5 ?_))
        case d2 => first | rfl | (intro u hu; rw [List.mem_singleton] at hu; subst hu; rfl)
        case d3 => have h9 := HLQ.out; rw [List.length_append] at h9; unfold maxLen; omega
        case d4 => have h9 := HLQ.out; rw [List.length_append] at h9; omega
        case d5 => have h9 := HB7.out.size; simp at h9; omega
        intro v8 w8 hown8 hgrow8 _ _
        have HK8 := Lib.hid (show KR w0.heap.size w0 w8 w1.heap.size w3.heap.size n2 (tabL ys) D2 (fun k => (firstF xs k).isNone) ks (size D2) v8 cnt' (seen ++ [x]) _ from
          ⟨HG7.out.kept hgrow8 (row_ne_low HR7.out (by have := HLT.out; have := HSZ.out; omega)) (row_ne_iter HR7.out HG7.out), HC5.out,
            by rw [filter_snoc_yes HF.out]; simpa [List.map_append, List.length_append, Nat.add_assoc] using hown8,
            HB7.out.grown hgrow8 HB7.out.size (fun k hk => (HR7.out.lt k hk).1), HZ5.out⟩)
        clear hown8 hgrow8
        go_wp2
        go_roundw
        case rel => exact ⟨_, _, _, HK8.out⟩
        case measure => rw [HK8.out.rg.left_eq, HLE.out]; exact HL5.out
end Go.Proofs.Ytdnmacehfbjiiaa
