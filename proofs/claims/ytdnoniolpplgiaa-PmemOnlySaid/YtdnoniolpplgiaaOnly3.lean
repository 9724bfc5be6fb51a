/- The law PmemOnly, walked. Printed by tools/e_only3.py. -/
import Derived.Test.YtdnoniolpplgiaaOnly2
import Derived.Test.YtdnoniolpplgiaaArmed
import Derived.Maps.AppendAt
namespace Go.Proofs.Ytdnoniolpplgiaa
open Go.RowKit Go.Maps Go.Sort Go.Shelf

theorem row_at {w : World} {base n c : Nat} {X : Option Addr} {L : List Int} (h : w.ownsRow base 28 1 (.slice X n c) n (L.map (Value.int .u64))) {q : Nat} (hq : q < L.length) : ∃ g, X = some ⟨g, 0, none⟩ ∧ g < w.heap.size ∧ w.cell? ⟨g, q, none⟩ = some (.int .u64 L[q]) := by
  have hl := h.1
  rw [List.length_map] at hl
  rcases h.2 with ⟨_, h0⟩ | ⟨g, cap, cur, e, _⟩
  · omega
  · cases e
    exact ⟨g, rfl, (h.lt g rfl).2, by rw [h.cellAt _ (by omega), List.getElem?_map, List.getElem?_eq_getElem hq]; rfl⟩
theorem take_dec {s x : Int} {L : List Int} : decide (s ∈ L ++ [x]) = (decide (s ∈ L) || (s == x)) := by
  by_cases h : s ∈ L
  · simp [h]
  · simp only [List.mem_append, List.mem_singleton, h, false_or, decide_false, Bool.false_or]
    by_cases e : s = x <;> simp [e]
set_option maxRecDepth 100000 in
set_option maxHeartbeats 8000000 in
theorem only_walk {A : Option Addr} {l : Nat} {xs : List De} {w : World} (n i : Int) (cap : Nat) (h : Deeds w w.heap.size A l xs) (hm : l ≤ maxLen) (hx : ∀ x ∈ xs, W64 x.i) (hi : W64 i) : Calls Try.prog 6 #[.int .i64 n, .slice A l cap, .int .i64 i] w fun e w' => e = .returned (.bool true) ∧ Below w.heap.size w w' := by
  have CA := Lib.hid (awake_any w)
  have H := Lib.hid h
  have CF0 := fun w1 (hb : Below w.heap.size w w1) => few_any cap (h.below hb) hm
  have hlen := h.1
  have HX0 := Lib.hid hx
  have HI := Lib.hid hi
  obtain ⟨i0, hin, hz0, hz1, hz2⟩ := info_parts Try.info28
  unfold maxLen at hm
  clear h hx hi
  cases hfb : fewB xs with
  | false =>
    rw [hfb] at CF0
    have CF := Lib.hid CF0
    clear CF0 hfb
    go_enter Try.func6, Try.ntmps6
    go_wp2_with (first
      | (go_at_call 11; refine (CA.out).mono ?_; rintro e w1 ⟨rfl, hb1⟩)
      | (go_at_call 12; refine (CF.out w1 hb1).mono ?_; rintro e w2 ⟨rfl, hb2⟩; have hb3 := hb1.trans (hb2.mono hb1.size)))
    go_ret
    exact ⟨rfl, hb3⟩
  | true =>
    rw [hfb] at CF0
    have CF := Lib.hid CF0
    obtain ⟨hfl, hfk⟩ := fewB_le hfb
    clear CF0 hfb hfk
    by_cases hn : 1000 < n
    · go_enter Try.func6, Try.ntmps6
      go_wp2_with (first
        | (go_at_call 11; refine (CA.out).mono ?_; rintro e w1 ⟨rfl, hb1⟩)
        | (go_at_call 12; refine (CF.out w1 hb1).mono ?_; rintro e w2 ⟨rfl, hb2⟩; have hb3 := hb1.trans (hb2.mono hb1.size)))
      go_ret
      exact ⟨rfl, hb3⟩
    · go_enter Try.func6, Try.ntmps6
      go_wp2_with (first
        | (go_at_call 11; refine (CA.out).mono ?_; rintro e w1 ⟨rfl, hb1⟩)
        | (go_at_call 12; refine (CF.out w1 hb1).mono ?_; rintro e w2 ⟨rfl, hb2⟩; have hb3 := hb1.trans (hb2.mono hb1.size))
        | (go_at_call 13; refine (new_any w2 n).mono ?_; rintro e w5 ⟨t, m, c, y, rfl, hD, hb6, hlo⟩; have HS := Lib.hid (OX.start (w0 := w) (hb3.trans (hb6.mono hb3.size)) hD (fun q hq => Nat.le_trans hb3.size (hlo q hq))); clear hD hlo hb6))
      go_loopw [8, 31] (fun v u wr => ∃ j : Nat, j ≤ l ∧ u = .int .i64 j ∧ ∃ c y T d L, OX w wr t m c y T d v L j ∧ Only d i L) (fun _ u _ => l - (intOf u).toNat)
      case atStart => exact ⟨0, Nat.zero_le _, rfl, c, y, [], Dv.new n, [0], HS.out, Only.new n i⟩
      case round =>
        clear HS
        obtain ⟨j, hj, rfl, c1, y1, T1, d1, L1, hX, hO⟩ := hrel
        have HXX := Lib.hid hX
        have HOO := Lib.hid hO
        have hbr := hX.bel
        have hLL := hX.few.2.2
        have hev := hX.few.2.1
        have hTl := hX.few.1
        obtain ⟨X1, c9, hv⟩ := own_slice hX.row
        subst hv
        have HND := Lib.hid (show wr.heap.size ∉ [t, m, c1, y1] from fun hm => Nat.lt_irrefl _ (hX.dev.lt _ hm))
        clear hX hO
        by_cases hlt : j < l
        · obtain ⟨g, off, rfl, hgl, k, hkj, hkm, k0, k1, k2, k3, hBk, hLk⟩ := (H.out.below hbr).at hlt
          have HKI := Lib.hid (HX0.out k hkm)
          have HLK := Lib.hid hLk
          have HBK := Lib.hid (hBk.below ((Below.refl _ _).alloc (Nat.le_refl _) (.cells #[.int .i64 k.k, .int .i64 k.i, .int .u64 k.v, .slice k.ka k.kn k.kc] 31)))
          have HXA := Lib.hid (HXX.out.below ((Below.refl _ _).alloc (Nat.le_refl _) (.cells #[.int .i64 k.k, .int .i64 k.i, .int .u64 k.v, .slice k.ka k.kn k.kc] 31)))
          have HBK0 := Lib.hid hBk
          clear hkj hkm hBk hLk
          by_cases hk4 : k.k = 4
          · have hkb : (k.k == 4) = true := by rw [hk4]; simp
            clear hk4
            have HXB := Lib.hid HXA.out.mono
            go_wp2
            go_roundw
            case rel => exact ⟨j + 1, by omega, by go_num, c1, y1, T1, d1, L1, HXB.out, HOO.out⟩
            case measure => simp [intOf]; omega
          · have hkb : (k.k == 4) = false := by simp [hk4]
            have he0 : d1.events < 900000000 := by omega
            by_cases hle : k.k ≤ 0
            · by_cases hst : (d1.store k.i k.v).1 = 0 ∧ k.i = i
              · obtain ⟨hr0, hki⟩ := hst
                have hkbi : (k.i == i) = true := by rw [hki]; simp
                have HOS := Lib.hid (show Only (d1.store k.i k.v).2 i (L1 ++ [k.v]) by rw [hki]; exact HOO.out.store_same)
                have HR0 := Lib.hid hr0
                clear hr0 hki
                go_wp2_with (first
                  | (go_at_call 17; refine (store_any HXA.out.dev HKI.out k.v he0 (by omega)).mono ?_; rintro e w9 ⟨rfl, hD, hk⟩; have hB1 : w9.cell? ⟨wr.heap.size, 1, none⟩ = some (.int .i64 k.i) := (hk.cell (a := ⟨wr.heap.size, 1, none⟩) (by simp) HND.out).trans (by go_simp); have hB2 : w9.cell? ⟨wr.heap.size, 2, none⟩ = some (.int .u64 k.v) := (hk.cell (a := ⟨wr.heap.size, 2, none⟩) (by simp) HND.out).trans (by go_simp); have HX9 := Lib.hid (HXA.out.dev' hD hk (fun q hq => .inl hq) (fun q hq => .inl hq) (T' := k.i :: T1) (fun q hq => by rcases List.mem_cons.1 hq with rfl | hq; (exact HKI.out); exact HXA.out.t64 q hq) (by simp; omega) (store_ev d1 k.i k.v HXA.out.few.2.1)); clear hD hk; rw [HR0.out])
                  | (at_builtin; refine wpList_append_own_at _ rfl _ _ 53 rfl w.heap.size 28 i0 (.int .u64 0) 1 8 Try.underlying53 hin hz0 hz1 hz2 rfl (by decide) _ L1.length (L1.map (Value.int .u64)) rfl (HX9.out.row.alloc _) ⟨w9.heap.size, 0, none⟩ 1 1 [.int .u64 k.v] rfl rfl (cell_one_new _ _ _) ?c2 ?c3 ?c4 ?c5 ?_))
                case c2 => intro u hu; rw [List.mem_singleton] at hu; subst hu; rfl
                case c3 => unfold maxLen; omega
                case c4 => omega
                case c5 => have := HX9.out.bel.size; simp; omega
                intro v6 w6 hown6 hgrow6 _ hblk6
                have HX6 := HX9.out.below ((Below.refl _ _).alloc (Nat.le_refl _) (.cells #[.int .u64 k.v] 28))
                obtain ⟨T2, d2, L2, X6, c6, hv6, HX, HO⟩ : ∃ T2 d2 L2 X6 c6, v6 = .slice X6 (List.length L2) c6 ∧ Hid (OX w w6 t m c1 y1 T2 d2 v6 L2 (j + 1)) ∧ Hid (Only d2 i L2) := by
                  obtain ⟨X6, c6, hv6⟩ := own_slice hown6
                  exact ⟨_, _, L1 ++ [k.v], X6, c6, by rw [hv6, List.length_append]; rfl, Lib.hid (HX6.push (by omega) hown6 hgrow6 (by rw [show (w9.alloc (.cells #[.int .u64 k.v] 28)).heap.size = w9.heap.size + 1 by simp]; exact hblk6)), HOS⟩
                clear hown6 hgrow6 hblk6 HX6 HX9 hB1 hB2 HR0 HOS
                subst hv6
                go_wp2
                have hL22 := HX.out.few.2.2
                have HFIN := Lib.hid HX
                go_loopw [11, 71] (fun b u wr => ∃ q : Nat, q ≤ L2.length ∧ u = .int .i64 q ∧ b = .bool (decide (d2.stays i ∈ L2.take q)) ∧ OX w wr t m c1 y1 T2 d2 (.slice X6 L2.length c6) L2 (j + 1)) (fun _ u _ => L2.length - (intOf u).toNat)
                case atStart => exact ⟨0, Nat.zero_le _, rfl, by simp, HX.out⟩
                case round =>
                  obtain ⟨q, hq, rfl, rfl, hS⟩ := hrel
                  have HS := Lib.hid hS
                  have hbr9 := hS.bel
                  clear hS
                  by_cases hql : q < L2.length
                  · obtain ⟨g9, rfl, hgl9, CX⟩ := row_at HS.out.row hql
                    have HST := Lib.hid (take_snoc (List.getElem?_eq_getElem hql))
                    generalize L2[q]'hql = x9 at *
                    generalize hbb : decide (d2.stays i ∈ L2.take q) = bb
                    have HBB := Lib.hid hbb
                    clear hbb
                    cases bb with
                    | true =>
                      go_wp2
                      go_roundw
                      case rel => exact ⟨q + 1, by omega, by go_num, by rw [HST.out, take_dec, HBB.out]; rfl, HS.out⟩
                      case measure => simp [intOf]; omega
                    | false =>
                      go_wp2_with (go_at_call 24; refine (stays_any HS.out.dev HI.out).mono ?_; rintro e w14 ⟨rfl, rfl⟩)
                      go_roundw
                      case rel => exact ⟨q + 1, by omega, by go_num, by rw [HST.out, take_dec, HBB.out]; rfl, HS.out⟩
                      case measure => simp [intOf]; omega
                  · obtain rfl : q = L2.length := by omega
                    have HTR := Lib.hid (show decide (d2.stays i ∈ L2.take L2.length) = true by rw [List.take_length, decide_eq_true_iff]; exact HO.out.stays)
                    rw [HTR.out]
                    have HFI := Lib.hid HS
                    go_wp2
                    go_roundw
                    case rel => exact ⟨j + 1, by omega, by go_num, c1, y1, T2, d2, L2, HFI.out, HO.out⟩
                    case measure => simp [intOf]; omega
              · have HOS := Lib.hid (HOO.out.store_far hst)
                by_cases hr0 : (d1.store k.i k.v).1 = 0
                · have hkbi : (k.i == i) = false := by simp; exact fun e => hst ⟨hr0, e⟩
                  have HR0 := Lib.hid hr0
                  clear hr0 hst
                  go_wp2_with (first
                    | (go_at_call 17; refine (store_any HXA.out.dev HKI.out k.v he0 (by omega)).mono ?_; rintro e w9 ⟨rfl, hD, hk⟩; have hB1 : w9.cell? ⟨wr.heap.size, 1, none⟩ = some (.int .i64 k.i) := (hk.cell (a := ⟨wr.heap.size, 1, none⟩) (by simp) HND.out).trans (by go_simp); have hB2 : w9.cell? ⟨wr.heap.size, 2, none⟩ = some (.int .u64 k.v) := (hk.cell (a := ⟨wr.heap.size, 2, none⟩) (by simp) HND.out).trans (by go_simp); have HX9 := Lib.hid (HXA.out.dev' hD hk (fun q hq => .inl hq) (fun q hq => .inl hq) (T' := k.i :: T1) (fun q hq => by rcases List.mem_cons.1 hq with rfl | hq; (exact HKI.out); exact HXA.out.t64 q hq) (by simp; omega) (store_ev d1 k.i k.v HXA.out.few.2.1)); clear hD hk; rw [HR0.out]; obtain ⟨T2, d2, HX, HO⟩ : ∃ T2 d2, Hid (OX w w9 t m c1 y1 T2 d2 (.slice X1 L1.length c9) L1 (j + 1)) ∧ Hid (Only d2 i L1) := ⟨_, _, HX9, HOS⟩; clear HX9))
                  have hL12 := HX.out.few.2.2
                  have HFIN := Lib.hid HX
                  go_loopw [11, 71] (fun b u wr => ∃ q : Nat, q ≤ L1.length ∧ u = .int .i64 q ∧ b = .bool (decide (d2.stays i ∈ L1.take q)) ∧ OX w wr t m c1 y1 T2 d2 (.slice X1 L1.length c9) L1 (j + 1)) (fun _ u _ => L1.length - (intOf u).toNat)
                  case atStart => exact ⟨0, Nat.zero_le _, rfl, by simp, HX.out⟩
                  case round =>
                    obtain ⟨q, hq, rfl, rfl, hS⟩ := hrel
                    have HS := Lib.hid hS
                    have hbr9 := hS.bel
                    clear hS
                    by_cases hql : q < L1.length
                    · obtain ⟨g9, rfl, hgl9, CX⟩ := row_at HS.out.row hql
                      have HST := Lib.hid (take_snoc (List.getElem?_eq_getElem hql))
                      generalize L1[q]'hql = x9 at *
                      generalize hbb : decide (d2.stays i ∈ L1.take q) = bb
                      have HBB := Lib.hid hbb
                      clear hbb
                      cases bb with
                      | true =>
                        go_wp2
                        go_roundw
                        case rel => exact ⟨q + 1, by omega, by go_num, by rw [HST.out, take_dec, HBB.out]; rfl, HS.out⟩
                        case measure => simp [intOf]; omega
                      | false =>
                        go_wp2_with (go_at_call 24; refine (stays_any HS.out.dev HI.out).mono ?_; rintro e w14 ⟨rfl, rfl⟩)
                        go_roundw
                        case rel => exact ⟨q + 1, by omega, by go_num, by rw [HST.out, take_dec, HBB.out]; rfl, HS.out⟩
                        case measure => simp [intOf]; omega
                    · obtain rfl : q = L1.length := by omega
                      have HTR := Lib.hid (show decide (d2.stays i ∈ L1.take L1.length) = true by rw [List.take_length, decide_eq_true_iff]; exact HO.out.stays)
                      rw [HTR.out]
                      have HFI := Lib.hid HS
                      go_wp2
                      go_roundw
                      case rel => exact ⟨j + 1, by omega, by go_num, c1, y1, T2, d2, L1, HFI.out, HO.out⟩
                      case measure => simp [intOf]; omega
                · have hr1 : ((d1.store k.i k.v).1 == 0) = false := by simp [hr0]
                  clear hr0 hst
                  go_wp2_with (first
                    | (go_at_call 17; refine (store_any HXA.out.dev HKI.out k.v he0 (by omega)).mono ?_; rintro e w9 ⟨rfl, hD, hk⟩; have hB1 : w9.cell? ⟨wr.heap.size, 1, none⟩ = some (.int .i64 k.i) := (hk.cell (a := ⟨wr.heap.size, 1, none⟩) (by simp) HND.out).trans (by go_simp); have hB2 : w9.cell? ⟨wr.heap.size, 2, none⟩ = some (.int .u64 k.v) := (hk.cell (a := ⟨wr.heap.size, 2, none⟩) (by simp) HND.out).trans (by go_simp); have HX9 := Lib.hid (HXA.out.dev' hD hk (fun q hq => .inl hq) (fun q hq => .inl hq) (T' := k.i :: T1) (fun q hq => by rcases List.mem_cons.1 hq with rfl | hq; (exact HKI.out); exact HXA.out.t64 q hq) (by simp; omega) (store_ev d1 k.i k.v HXA.out.few.2.1)); clear hD hk; obtain ⟨T2, d2, HX, HO⟩ : ∃ T2 d2, Hid (OX w w9 t m c1 y1 T2 d2 (.slice X1 L1.length c9) L1 (j + 1)) ∧ Hid (Only d2 i L1) := ⟨_, _, HX9, HOS⟩; clear HX9))
                  have hL12 := HX.out.few.2.2
                  have HFIN := Lib.hid HX
                  go_loopw [11, 71] (fun b u wr => ∃ q : Nat, q ≤ L1.length ∧ u = .int .i64 q ∧ b = .bool (decide (d2.stays i ∈ L1.take q)) ∧ OX w wr t m c1 y1 T2 d2 (.slice X1 L1.length c9) L1 (j + 1)) (fun _ u _ => L1.length - (intOf u).toNat)
                  case atStart => exact ⟨0, Nat.zero_le _, rfl, by simp, HX.out⟩
                  case round =>
                    obtain ⟨q, hq, rfl, rfl, hS⟩ := hrel
                    have HS := Lib.hid hS
                    have hbr9 := hS.bel
                    clear hS
                    by_cases hql : q < L1.length
                    · obtain ⟨g9, rfl, hgl9, CX⟩ := row_at HS.out.row hql
                      have HST := Lib.hid (take_snoc (List.getElem?_eq_getElem hql))
                      generalize L1[q]'hql = x9 at *
                      generalize hbb : decide (d2.stays i ∈ L1.take q) = bb
                      have HBB := Lib.hid hbb
                      clear hbb
                      cases bb with
                      | true =>
                        go_wp2
                        go_roundw
                        case rel => exact ⟨q + 1, by omega, by go_num, by rw [HST.out, take_dec, HBB.out]; rfl, HS.out⟩
                        case measure => simp [intOf]; omega
                      | false =>
                        go_wp2_with (go_at_call 24; refine (stays_any HS.out.dev HI.out).mono ?_; rintro e w14 ⟨rfl, rfl⟩)
                        go_roundw
                        case rel => exact ⟨q + 1, by omega, by go_num, by rw [HST.out, take_dec, HBB.out]; rfl, HS.out⟩
                        case measure => simp [intOf]; omega
                    · obtain rfl : q = L1.length := by omega
                      have HTR := Lib.hid (show decide (d2.stays i ∈ L1.take L1.length) = true by rw [List.take_length, decide_eq_true_iff]; exact HO.out.stays)
                      rw [HTR.out]
                      have HFI := Lib.hid HS
                      go_wp2
                      go_roundw
                      case rel => exact ⟨j + 1, by omega, by go_num, c1, y1, T2, d2, L1, HFI.out, HO.out⟩
                      case measure => simp [intOf]; omega
            · by_cases h5 : 5 < k.k
              · by_cases hst : (d1.store k.i k.v).1 = 0 ∧ k.i = i
                · obtain ⟨hr0, hki⟩ := hst
                  have hkbi : (k.i == i) = true := by rw [hki]; simp
                  have HOS := Lib.hid (show Only (d1.store k.i k.v).2 i (L1 ++ [k.v]) by rw [hki]; exact HOO.out.store_same)
                  have HR0 := Lib.hid hr0
                  clear hr0 hki
                  go_wp2_with (first
                    | (go_at_call 17; refine (store_any HXA.out.dev HKI.out k.v he0 (by omega)).mono ?_; rintro e w9 ⟨rfl, hD, hk⟩; have hB1 : w9.cell? ⟨wr.heap.size, 1, none⟩ = some (.int .i64 k.i) := (hk.cell (a := ⟨wr.heap.size, 1, none⟩) (by simp) HND.out).trans (by go_simp); have hB2 : w9.cell? ⟨wr.heap.size, 2, none⟩ = some (.int .u64 k.v) := (hk.cell (a := ⟨wr.heap.size, 2, none⟩) (by simp) HND.out).trans (by go_simp); have HX9 := Lib.hid (HXA.out.dev' hD hk (fun q hq => .inl hq) (fun q hq => .inl hq) (T' := k.i :: T1) (fun q hq => by rcases List.mem_cons.1 hq with rfl | hq; (exact HKI.out); exact HXA.out.t64 q hq) (by simp; omega) (store_ev d1 k.i k.v HXA.out.few.2.1)); clear hD hk; rw [HR0.out])
                    | (at_builtin; refine wpList_append_own_at _ rfl _ _ 53 rfl w.heap.size 28 i0 (.int .u64 0) 1 8 Try.underlying53 hin hz0 hz1 hz2 rfl (by decide) _ L1.length (L1.map (Value.int .u64)) rfl (HX9.out.row.alloc _) ⟨w9.heap.size, 0, none⟩ 1 1 [.int .u64 k.v] rfl rfl (cell_one_new _ _ _) ?c2 ?c3 ?c4 ?c5 ?_))
                  case c2 => intro u hu; rw [List.mem_singleton] at hu; subst hu; rfl
                  case c3 => unfold maxLen; omega
                  case c4 => omega
                  case c5 => have := HX9.out.bel.size; simp; omega
                  intro v6 w6 hown6 hgrow6 _ hblk6
                  have HX6 := HX9.out.below ((Below.refl _ _).alloc (Nat.le_refl _) (.cells #[.int .u64 k.v] 28))
                  obtain ⟨T2, d2, L2, X6, c6, hv6, HX, HO⟩ : ∃ T2 d2 L2 X6 c6, v6 = .slice X6 (List.length L2) c6 ∧ Hid (OX w w6 t m c1 y1 T2 d2 v6 L2 (j + 1)) ∧ Hid (Only d2 i L2) := by
                    obtain ⟨X6, c6, hv6⟩ := own_slice hown6
                    exact ⟨_, _, L1 ++ [k.v], X6, c6, by rw [hv6, List.length_append]; rfl, Lib.hid (HX6.push (by omega) hown6 hgrow6 (by rw [show (w9.alloc (.cells #[.int .u64 k.v] 28)).heap.size = w9.heap.size + 1 by simp]; exact hblk6)), HOS⟩
                  clear hown6 hgrow6 hblk6 HX6 HX9 hB1 hB2 HR0 HOS
                  subst hv6
                  go_wp2
                  have hL22 := HX.out.few.2.2
                  have HFIN := Lib.hid HX
                  go_loopw [11, 71] (fun b u wr => ∃ q : Nat, q ≤ L2.length ∧ u = .int .i64 q ∧ b = .bool (decide (d2.stays i ∈ L2.take q)) ∧ OX w wr t m c1 y1 T2 d2 (.slice X6 L2.length c6) L2 (j + 1)) (fun _ u _ => L2.length - (intOf u).toNat)
                  case atStart => exact ⟨0, Nat.zero_le _, rfl, by simp, HX.out⟩
                  case round =>
                    obtain ⟨q, hq, rfl, rfl, hS⟩ := hrel
                    have HS := Lib.hid hS
                    have hbr9 := hS.bel
                    clear hS
                    by_cases hql : q < L2.length
                    · obtain ⟨g9, rfl, hgl9, CX⟩ := row_at HS.out.row hql
                      have HST := Lib.hid (take_snoc (List.getElem?_eq_getElem hql))
                      generalize L2[q]'hql = x9 at *
                      generalize hbb : decide (d2.stays i ∈ L2.take q) = bb
                      have HBB := Lib.hid hbb
                      clear hbb
                      cases bb with
                      | true =>
                        go_wp2
                        go_roundw
                        case rel => exact ⟨q + 1, by omega, by go_num, by rw [HST.out, take_dec, HBB.out]; rfl, HS.out⟩
                        case measure => simp [intOf]; omega
                      | false =>
                        go_wp2_with (go_at_call 24; refine (stays_any HS.out.dev HI.out).mono ?_; rintro e w14 ⟨rfl, rfl⟩)
                        go_roundw
                        case rel => exact ⟨q + 1, by omega, by go_num, by rw [HST.out, take_dec, HBB.out]; rfl, HS.out⟩
                        case measure => simp [intOf]; omega
                    · obtain rfl : q = L2.length := by omega
                      have HTR := Lib.hid (show decide (d2.stays i ∈ L2.take L2.length) = true by rw [List.take_length, decide_eq_true_iff]; exact HO.out.stays)
                      rw [HTR.out]
                      have HFI := Lib.hid HS
                      go_wp2
                      go_roundw
                      case rel => exact ⟨j + 1, by omega, by go_num, c1, y1, T2, d2, L2, HFI.out, HO.out⟩
                      case measure => simp [intOf]; omega
                · have HOS := Lib.hid (HOO.out.store_far hst)
                  by_cases hr0 : (d1.store k.i k.v).1 = 0
                  · have hkbi : (k.i == i) = false := by simp; exact fun e => hst ⟨hr0, e⟩
                    have HR0 := Lib.hid hr0
                    clear hr0 hst
                    go_wp2_with (first
                      | (go_at_call 17; refine (store_any HXA.out.dev HKI.out k.v he0 (by omega)).mono ?_; rintro e w9 ⟨rfl, hD, hk⟩; have hB1 : w9.cell? ⟨wr.heap.size, 1, none⟩ = some (.int .i64 k.i) := (hk.cell (a := ⟨wr.heap.size, 1, none⟩) (by simp) HND.out).trans (by go_simp); have hB2 : w9.cell? ⟨wr.heap.size, 2, none⟩ = some (.int .u64 k.v) := (hk.cell (a := ⟨wr.heap.size, 2, none⟩) (by simp) HND.out).trans (by go_simp); have HX9 := Lib.hid (HXA.out.dev' hD hk (fun q hq => .inl hq) (fun q hq => .inl hq) (T' := k.i :: T1) (fun q hq => by rcases List.mem_cons.1 hq with rfl | hq; (exact HKI.out); exact HXA.out.t64 q hq) (by simp; omega) (store_ev d1 k.i k.v HXA.out.few.2.1)); clear hD hk; rw [HR0.out]; obtain ⟨T2, d2, HX, HO⟩ : ∃ T2 d2, Hid (OX w w9 t m c1 y1 T2 d2 (.slice X1 L1.length c9) L1 (j + 1)) ∧ Hid (Only d2 i L1) := ⟨_, _, HX9, HOS⟩; clear HX9))
                    have hL12 := HX.out.few.2.2
                    have HFIN := Lib.hid HX
                    go_loopw [11, 71] (fun b u wr => ∃ q : Nat, q ≤ L1.length ∧ u = .int .i64 q ∧ b = .bool (decide (d2.stays i ∈ L1.take q)) ∧ OX w wr t m c1 y1 T2 d2 (.slice X1 L1.length c9) L1 (j + 1)) (fun _ u _ => L1.length - (intOf u).toNat)
                    case atStart => exact ⟨0, Nat.zero_le _, rfl, by simp, HX.out⟩
                    case round =>
                      obtain ⟨q, hq, rfl, rfl, hS⟩ := hrel
                      have HS := Lib.hid hS
                      have hbr9 := hS.bel
                      clear hS
                      by_cases hql : q < L1.length
                      · obtain ⟨g9, rfl, hgl9, CX⟩ := row_at HS.out.row hql
                        have HST := Lib.hid (take_snoc (List.getElem?_eq_getElem hql))
                        generalize L1[q]'hql = x9 at *
                        generalize hbb : decide (d2.stays i ∈ L1.take q) = bb
                        have HBB := Lib.hid hbb
                        clear hbb
                        cases bb with
                        | true =>
                          go_wp2
                          go_roundw
                          case rel => exact ⟨q + 1, by omega, by go_num, by rw [HST.out, take_dec, HBB.out]; rfl, HS.out⟩
                          case measure => simp [intOf]; omega
                        | false =>
                          go_wp2_with (go_at_call 24; refine (stays_any HS.out.dev HI.out).mono ?_; rintro e w14 ⟨rfl, rfl⟩)
                          go_roundw
                          case rel => exact ⟨q + 1, by omega, by go_num, by rw [HST.out, take_dec, HBB.out]; rfl, HS.out⟩
                          case measure => simp [intOf]; omega
                      · obtain rfl : q = L1.length := by omega
                        have HTR := Lib.hid (show decide (d2.stays i ∈ L1.take L1.length) = true by rw [List.take_length, decide_eq_true_iff]; exact HO.out.stays)
                        rw [HTR.out]
                        have HFI := Lib.hid HS
                        go_wp2
                        go_roundw
                        case rel => exact ⟨j + 1, by omega, by go_num, c1, y1, T2, d2, L1, HFI.out, HO.out⟩
                        case measure => simp [intOf]; omega
                  · have hr1 : ((d1.store k.i k.v).1 == 0) = false := by simp [hr0]
                    clear hr0 hst
                    go_wp2_with (first
                      | (go_at_call 17; refine (store_any HXA.out.dev HKI.out k.v he0 (by omega)).mono ?_; rintro e w9 ⟨rfl, hD, hk⟩; have hB1 : w9.cell? ⟨wr.heap.size, 1, none⟩ = some (.int .i64 k.i) := (hk.cell (a := ⟨wr.heap.size, 1, none⟩) (by simp) HND.out).trans (by go_simp); have hB2 : w9.cell? ⟨wr.heap.size, 2, none⟩ = some (.int .u64 k.v) := (hk.cell (a := ⟨wr.heap.size, 2, none⟩) (by simp) HND.out).trans (by go_simp); have HX9 := Lib.hid (HXA.out.dev' hD hk (fun q hq => .inl hq) (fun q hq => .inl hq) (T' := k.i :: T1) (fun q hq => by rcases List.mem_cons.1 hq with rfl | hq; (exact HKI.out); exact HXA.out.t64 q hq) (by simp; omega) (store_ev d1 k.i k.v HXA.out.few.2.1)); clear hD hk; obtain ⟨T2, d2, HX, HO⟩ : ∃ T2 d2, Hid (OX w w9 t m c1 y1 T2 d2 (.slice X1 L1.length c9) L1 (j + 1)) ∧ Hid (Only d2 i L1) := ⟨_, _, HX9, HOS⟩; clear HX9))
                    have hL12 := HX.out.few.2.2
                    have HFIN := Lib.hid HX
                    go_loopw [11, 71] (fun b u wr => ∃ q : Nat, q ≤ L1.length ∧ u = .int .i64 q ∧ b = .bool (decide (d2.stays i ∈ L1.take q)) ∧ OX w wr t m c1 y1 T2 d2 (.slice X1 L1.length c9) L1 (j + 1)) (fun _ u _ => L1.length - (intOf u).toNat)
                    case atStart => exact ⟨0, Nat.zero_le _, rfl, by simp, HX.out⟩
                    case round =>
                      obtain ⟨q, hq, rfl, rfl, hS⟩ := hrel
                      have HS := Lib.hid hS
                      have hbr9 := hS.bel
                      clear hS
                      by_cases hql : q < L1.length
                      · obtain ⟨g9, rfl, hgl9, CX⟩ := row_at HS.out.row hql
                        have HST := Lib.hid (take_snoc (List.getElem?_eq_getElem hql))
                        generalize L1[q]'hql = x9 at *
                        generalize hbb : decide (d2.stays i ∈ L1.take q) = bb
                        have HBB := Lib.hid hbb
                        clear hbb
                        cases bb with
                        | true =>
                          go_wp2
                          go_roundw
                          case rel => exact ⟨q + 1, by omega, by go_num, by rw [HST.out, take_dec, HBB.out]; rfl, HS.out⟩
                          case measure => simp [intOf]; omega
                        | false =>
                          go_wp2_with (go_at_call 24; refine (stays_any HS.out.dev HI.out).mono ?_; rintro e w14 ⟨rfl, rfl⟩)
                          go_roundw
                          case rel => exact ⟨q + 1, by omega, by go_num, by rw [HST.out, take_dec, HBB.out]; rfl, HS.out⟩
                          case measure => simp [intOf]; omega
                      · obtain rfl : q = L1.length := by omega
                        have HTR := Lib.hid (show decide (d2.stays i ∈ L1.take L1.length) = true by rw [List.take_length, decide_eq_true_iff]; exact HO.out.stays)
                        rw [HTR.out]
                        have HFI := Lib.hid HS
                        go_wp2
                        go_roundw
                        case rel => exact ⟨j + 1, by omega, by go_num, c1, y1, T2, d2, L1, HFI.out, HO.out⟩
                        case measure => simp [intOf]; omega
              · have hk1 : (k.k == 4) = false := hkb
                have HLE := Lib.hid (show ¬ k.k ≤ 0 by omega)
                have HL5 := Lib.hid (show ¬ 5 < k.k by omega)
                have HD4 := Lib.hid (show k.k ≠ 4 by simpa using hkb)
                have hbaD : Below wr.heap.size wr (wr.alloc (.cells #[.int .i64 k.k, .int .i64 k.i, .int .u64 k.v, .slice k.ka k.kn k.kc] 31)).drew := ((Below.refl _ _).alloc (Nat.le_refl _) _).drew
                have HXZ := Lib.hid (HXX.out.below hbaD)
                have HBZ := Lib.hid (fun w6 (hb : Below (wr.alloc (.cells #[.int .i64 k.k, .int .i64 k.i, .int .u64 k.v, .slice k.ka k.kn k.kc] 31)).drew.heap.size (wr.alloc (.cells #[.int .i64 k.k, .int .i64 k.i, .int .u64 k.v, .slice k.ka k.kn k.kc] 31)).drew w6) => Bools.below (HBK0.out.below hbaD) hb)
                have HSZ := Lib.hid (show (wr.alloc (.cells #[.int .i64 k.k, .int .i64 k.i, .int .u64 k.v, .slice k.ka k.kn k.kc] 31)).drew.heap.size = wr.heap.size + 1 by simp)
                clear hbaD
                go_upto_region 14 with fail
                go_region_held3 (fun w' => w'.cell? ⟨wr.heap.size, 0, none⟩ = some (.int .i64 k.k) ∧ w'.cell? ⟨wr.heap.size, 1, none⟩ = some (.int .i64 k.i) ∧ w'.cell? ⟨wr.heap.size, 2, none⟩ = some (.int .u64 k.v) ∧ w'.cell? ⟨wr.heap.size, 3, none⟩ = some (.slice k.ka k.kn k.kc))
                  (first | go_keep | assumption | exact ⟨by assumption, by assumption, by assumption, by assumption⟩)
                  ((first
                    | (go_at_call 21; refine (rnew_any _ n).mono ?_; rintro e w6 ⟨rfl, hR, hb8⟩; have HDX := Lib.hid (show DX w w6 t m c1 y1 (wr.heap.size + 1) none 0 T1 d1 (Rf.new n) j by have hh := HXZ.out.fresh hR hb8; rw [HSZ.out] at hh; exact hh); have HB6 := Lib.hid (HBZ.out w6 hb8); have HBB := Lib.hid hb8; have hq0 : w6.cell? ⟨wr.heap.size, 0, none⟩ = some (.int .i64 k.k) := (hb8.cell (by simp)).trans (by go_simp); have hq1 : w6.cell? ⟨wr.heap.size, 1, none⟩ = some (.int .i64 k.i) := (hb8.cell (by simp)).trans (by go_simp); have hq2 : w6.cell? ⟨wr.heap.size, 2, none⟩ = some (.int .u64 k.v) := (hb8.cell (by simp)).trans (by go_simp); have hq3 : w6.cell? ⟨wr.heap.size, 3, none⟩ = some (.slice k.ka k.kn k.kc) := (hb8.cell (by simp)).trans (by go_simp); clear hR hb8)
                    | (go_at_call 22; refine (show Calls Try.prog 22 #[.pointer (some ⟨t, 0, none⟩), .pointer (some ⟨wr.heap.size + 1, 0, none⟩), .agg #[.int .i64 k.k, .int .i64 k.i, .int .u64 k.v, .slice k.ka k.kn k.kc]] w6 (DoneK w w6 t m c1 y1 (wr.heap.size + 1) none k d1 (Rf.new n) j) from dok_any HDX.out k (by have := HLE.out; omega) (by have := HD4.out; omega) (by have := HL5.out; omega) HB6.out HLK.out (by omega)).mono ?_; rintro e w7 ⟨c2, y2, X', cap', T2, r, rfl, hr, hX', hk, hnw⟩; obtain ⟨d2, HX, HO⟩ : ∃ d2, Hid (OX w w7 t m c2 y2 T2 d2 (.slice X1 L1.length c9) L1 (j + 1)) ∧ Hid (Only d2 i L1) := ⟨r.2, Lib.hid (HXZ.out.dev' hX'.dev ((Kept.of_below HBB.out).trans hk) (fun q hq => by rcases List.mem_append.1 hq with h | h; (exact .inl h); (right; rw [HSZ.out]; simp [refB] at h; omega)) (fun q hq => by rcases hnw q hq with h | h; (exact .inl h); (exact .inr (Nat.le_trans HBB.out.size h))) hX'.t64 hX'.few.1 hX'.few.2.2.1), Lib.hid (HOO.out.doD hr (by have := HLE.out; omega) (by have := HL5.out; omega))⟩; have hl6 : wr.heap.size < w6.heap.size := (by have h1 := HBB.out.size; rw [HSZ.out] at h1; omega); have hn6 : wr.heap.size ∉ [t, m, c1, y1] ++ refB (wr.heap.size + 1) none := (fun hm => by rcases List.mem_append.1 hm with h | h; (exact HND.out h); (simp [refB] at h)); have hp0 : w7.cell? ⟨wr.heap.size, 0, none⟩ = some (.int .i64 k.k) := (hk.cell (a := ⟨wr.heap.size, 0, none⟩) hl6 hn6).trans hq0; have hp1 : w7.cell? ⟨wr.heap.size, 1, none⟩ = some (.int .i64 k.i) := (hk.cell (a := ⟨wr.heap.size, 1, none⟩) hl6 hn6).trans hq1; have hp2 : w7.cell? ⟨wr.heap.size, 2, none⟩ = some (.int .u64 k.v) := (hk.cell (a := ⟨wr.heap.size, 2, none⟩) hl6 hn6).trans hq2; have hp3 : w7.cell? ⟨wr.heap.size, 3, none⟩ = some (.slice k.ka k.kn k.kc) := (hk.cell (a := ⟨wr.heap.size, 3, none⟩) hl6 hn6).trans hq3; clear hr hX' hk hnw hl6 hn6)))
                go_wp2
                have hL12 := HX.out.few.2.2
                have HFIN := Lib.hid HX
                go_loopw [11, 71] (fun b u wr => ∃ q : Nat, q ≤ L1.length ∧ u = .int .i64 q ∧ b = .bool (decide (d2.stays i ∈ L1.take q)) ∧ OX w wr t m c2 y2 T2 d2 (.slice X1 L1.length c9) L1 (j + 1)) (fun _ u _ => L1.length - (intOf u).toNat)
                case atStart => exact ⟨0, Nat.zero_le _, rfl, by simp, HX.out⟩
                case round =>
                  obtain ⟨q, hq, rfl, rfl, hS⟩ := hrel
                  have HS := Lib.hid hS
                  have hbr9 := hS.bel
                  clear hS
                  by_cases hql : q < L1.length
                  · obtain ⟨g9, rfl, hgl9, CX⟩ := row_at HS.out.row hql
                    have HST := Lib.hid (take_snoc (List.getElem?_eq_getElem hql))
                    generalize L1[q]'hql = x9 at *
                    generalize hbb : decide (d2.stays i ∈ L1.take q) = bb
                    have HBB := Lib.hid hbb
                    clear hbb
                    cases bb with
                    | true =>
                      go_wp2
                      go_roundw
                      case rel => exact ⟨q + 1, by omega, by go_num, by rw [HST.out, take_dec, HBB.out]; rfl, HS.out⟩
                      case measure => simp [intOf]; omega
                    | false =>
                      go_wp2_with (go_at_call 24; refine (stays_any HS.out.dev HI.out).mono ?_; rintro e w14 ⟨rfl, rfl⟩)
                      go_roundw
                      case rel => exact ⟨q + 1, by omega, by go_num, by rw [HST.out, take_dec, HBB.out]; rfl, HS.out⟩
                      case measure => simp [intOf]; omega
                  · obtain rfl : q = L1.length := by omega
                    have HTR := Lib.hid (show decide (d2.stays i ∈ L1.take L1.length) = true by rw [List.take_length, decide_eq_true_iff]; exact HO.out.stays)
                    rw [HTR.out]
                    have HFI := Lib.hid HS
                    go_wp2
                    go_roundw
                    case rel => exact ⟨j + 1, by omega, by go_num, c2, y2, T2, d2, L1, HFI.out, HO.out⟩
                    case measure => simp [intOf]; omega
        · obtain rfl : j = l := by omega
          have HB1 := Lib.hid HXX.out.bel
          go_wp2_with (first
            | (go_at_call 23; refine (load_nil _ 0).mono ?_; rintro e w20 ⟨rfl, rfl⟩)
            | (go_at_call 20; refine (crash_nil _ none 0 0).mono ?_; rintro e w21 ⟨rfl, rfl⟩)
            | (go_at_call 14; refine (arm_nil _ 1).mono ?_; rintro e w22 ⟨rfl, rfl⟩)
            | (go_at_call 17; refine (store_nil _ 0 1).mono ?_; rintro e w23 ⟨rfl, hb23⟩; have HB2 := Lib.hid (HB1.out.trans (hb23.mono HB1.out.size)); clear hb23)
            | (go_at_call 15; refine (flush_nil _ 0).mono ?_; rintro e w24 ⟨rfl, hb24⟩; have HB3 := Lib.hid (HB2.out.trans (hb24.mono HB2.out.size)); clear hb24)
            | (go_at_call 16; refine (fence_nil _).mono ?_; rintro e w25 ⟨rfl, hb25⟩; have HB4 := Lib.hid (HB3.out.trans (hb25.mono HB3.out.size)); clear hb25)
            | (go_at_call 32; refine (evict_nil _ 0).mono ?_; rintro e w26 ⟨rfl, rfl⟩)
            | (go_at_call 18; refine (deadD_nil _).mono ?_; rintro e w27 ⟨rfl, rfl⟩)
            | (go_at_call 31; refine (words_nil _).mono ?_; rintro e w28 ⟨rfl, rfl⟩)
            | (go_at_call 19; refine (events_nil _).mono ?_; rintro e w29 ⟨rfl, rfl⟩)
            | (go_at_call 25; refine (dirtyD_nil _).mono ?_; rintro e w30 ⟨rfl, rfl⟩)
            | (go_at_call 24; refine (stays_nil _ 0).mono ?_; rintro e w31 ⟨rfl, rfl⟩)
            | (go_at_call 26; refine (copy_nil _).mono ?_; rintro e w32 ⟨rfl, rfl⟩))
          go_ret
          exact ⟨rfl, HB4.out⟩
end Go.Proofs.Ytdnoniolpplgiaa
