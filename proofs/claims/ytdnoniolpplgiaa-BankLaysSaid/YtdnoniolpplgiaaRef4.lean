/- The document's device: Crash: a contract. -/
import Derived.Test.YtdnoniolpplgiaaRef3
namespace Go.Proofs.Ytdnoniolpplgiaa
open Go.RowKit Go.Maps Go.Sort Go.Shelf

/-- What a crash leaves of a word, the n-th of the dirty ones. -/
def Wd.crash (keep : List Bool) (n : Nat) (y : Wd) : Wd := ⟨y.at_, if y.dirty = true ∧ keep[n]? = some true then y.holds else y.stays, 0, false, false, 0⟩
def crashG (keep : List Bool) (ws : List Wd) (i : Nat) (y : Wd) : Wd := y.crash keep (dirtyN (ws.take i)).length
def Rf.crash (x : Rf) (keep : List Bool) : Rf := { x with ws := x.ws.mapIdx (crashG keep x.ws), armed := 0, dead := false }
section
variable {w : World} {s cap : Nat} {X : Option Nat} {x : Rf}
set_option maxRecDepth 100000 in
set_option maxHeartbeats 8000000 in
theorem rcrash_any (h : RefIs w s X cap x) {A0 : Option Addr} {n0 : Nat} {keep : List Bool} (capb : Nat) (hB : Bools w A0 n0 keep) (hA0 : keep ≠ [] → ∀ a, A0 = some a → a.block ∉ refB s X) : Calls Try.prog 61 #[.pointer (some ⟨s, 0, none⟩), .slice A0 n0 capb] w fun e w' => e = .returned (.tuple #[]) ∧ RefIs w' s X cap (x.crash keep) ∧ Kept (refB s X) w w' := by
  have H := Lib.hid h
  have HB := Lib.hid hB
  have HA0 := Lib.hid hA0
  have hkl := hB.1
  have hc1 := h.c1
  have hfew := h.few
  unfold slV at hc1
  clear h hB hA0
  generalize hA : Option.map (fun b => (⟨b, 0, none⟩ : Addr)) X = A at *
  have HA := Lib.hid hA
  clear hA
  go_enter Try.func61, Try.ntmps61
  go_wp2
  go_loopw [4, 12] (fun v k wr => ∃ j : Nat, j ≤ x.ws.length ∧ k = .int .i64 j ∧ v = .int .i64 ((dirtyN (x.ws.take j)).length : Nat) ∧ RefIs wr s X cap { x with ws := midG (crashG keep x.ws) x.ws j } ∧ Kept (refB s X) w wr) (fun _ k _ => x.ws.length - (intOf k).toNat)
  case atStart => exact ⟨0, Nat.zero_le _, rfl, rfl, by rw [midG_zero]; exact H.out, Kept.refl _ _⟩
  case round =>
    obtain ⟨j, hj, rfl, rfl, hD, hk⟩ := hrel
    by_cases hlt : j < x.ws.length
    · obtain ⟨b, rfl, hbl, hbn, hfr, y, hy, f0, f1, f2, f3, f4, f5⟩ := hD.at (i := j) (by simp only [midG_len]; exact hlt)
      have hA : some (⟨b, 0, none⟩ : Addr) = A := HA.out
      subst hA
      have hsl := hD.sl
      have hc1 := hD.c1
      simp only [slV, Option.map_some, midG_len] at hc1
      have hy : (midG (crashG keep x.ws) x.ws j)[j]? = some y := hy
      rw [midG_at] at hy
      have HN := Lib.hid (show dirtyN (x.ws.take (j + 1)) = dirtyN (x.ws.take j) ++ if y.dirty = true then [y.at_] else [] from by rw [take_snoc hy, dirtyN_snoc])
      have hln := dirtyN_len (x.ws.take j)
      rw [List.length_take] at hln
      have hln2 : (dirtyN (x.ws.take j)).length ≤ j := by omega
      have hg : ∀ z, y.crash keep (dirtyN (x.ws.take j)).length = z → crashG keep x.ws j y = z := fun z hz => hz
      have HG := Lib.hid hg
      have HX := Lib.hid hy
      have HDD := Lib.hid hD
      have HBR := Lib.hid (HB.out.kept hk HA0.out)
      clear hy hD hg hln
      generalize hq : (dirtyN (x.ws.take j)).length = q at *
      have HQ := Lib.hid hq
      clear hq
      cases hdy : y.dirty with
      | false =>
        rw [hdy] at f3
        have hz := HG.out ⟨y.at_, y.stays, 0, false, false, 0⟩ (by unfold Wd.crash; rw [if_neg (by simp [hdy])])
        have HN2 := Lib.hid (show (dirtyN (x.ws.take (j + 1))).length = q from by rw [HN.out, hdy, if_neg (by simp), List.append_nil]; exact HQ.out)
        have hP := HDD.out.step HX.out _ hz (.cells #[.int .i64 y.at_, .int .u64 y.stays, .int .u64 y.holds, .bool false, .bool y.way, .int .u64 y.sent] 94)
        unfold wdPut at hP
        have HP := Lib.hid hP
        clear hP hz hdy HG
        go_upto_region 8 with fail
        go_region
        go_wp2
        go_roundw
        case rel => exact ⟨j + 1, by omega, by go_num, by rw [HN2.out], HP.out.1, hk.trans HP.out.2⟩
        case measure => simp [intOf]; omega
      | true =>
        rw [hdy] at f3
        have HN2 := Lib.hid (show (dirtyN (x.ws.take (j + 1))).length = q + 1 from by rw [HN.out, hdy, if_pos rfl, List.length_append, HQ.out]; rfl)
        by_cases hqn : q < n0
        · obtain ⟨gb, offb, rfl, hgbl, v, hv, cb⟩ := HBR.out.at hqn
          cases v with
          | true =>
            have hz := HG.out ⟨y.at_, y.holds, 0, false, false, 0⟩ (by unfold Wd.crash; rw [if_pos ⟨hdy, hv⟩])
            have hP := HDD.out.step HX.out _ hz (.cells #[.int .i64 y.at_, .int .u64 y.holds, .int .u64 y.holds, .bool true, .bool y.way, .int .u64 y.sent] 94)
            unfold wdPut at hP
            have HP := Lib.hid hP
            clear hP hz hdy HG hv
            go_upto_region 8 with fail
            go_region
            go_wp2
            go_roundw
            case rel => exact ⟨j + 1, by omega, by go_num, by rw [HN2.out]; go_num, HP.out.1, hk.trans HP.out.2⟩
            case measure => simp [intOf]; omega
          | false =>
            have hkv : keep[q]? ≠ some true := by rw [hv]; simp
            have hz := HG.out ⟨y.at_, y.stays, 0, false, false, 0⟩ (by unfold Wd.crash; rw [if_neg (fun h => hkv h.2)])
            have hP := HDD.out.step HX.out _ hz (.cells #[.int .i64 y.at_, .int .u64 y.stays, .int .u64 y.holds, .bool true, .bool y.way, .int .u64 y.sent] 94)
            unfold wdPut at hP
            have HP := Lib.hid hP
            clear hP hz hdy HG hv hkv
            go_upto_region 8 with fail
            go_region
            go_wp2
            go_roundw
            case rel => exact ⟨j + 1, by omega, by go_num, by rw [HN2.out]; go_num, HP.out.1, hk.trans HP.out.2⟩
            case measure => simp [intOf]; omega
        · have hkv : keep[q]? ≠ some true := by rw [List.getElem?_eq_none (by omega)]; simp
          have hz := HG.out ⟨y.at_, y.stays, 0, false, false, 0⟩ (by unfold Wd.crash; rw [if_neg (fun h => hkv h.2)])
          have hP := HDD.out.step HX.out _ hz (.cells #[.int .i64 y.at_, .int .u64 y.stays, .int .u64 y.holds, .bool true, .bool y.way, .int .u64 y.sent] 94)
          unfold wdPut at hP
          have HP := Lib.hid hP
          clear hP hz hdy HG hkv
          go_upto_region 8 with fail
          go_region
          go_wp2
          go_roundw
          case rel => exact ⟨j + 1, by omega, by go_num, by rw [HN2.out]; go_num, HP.out.1, hk.trans HP.out.2⟩
          case measure => simp [intOf]; omega
    · obtain rfl : j = x.ws.length := by omega
      have hD := hD
      rw [midG_end] at hD
      have HF := Lib.hid ((hD.set2 (n := 0) (by omega)).set3 false)
      have hc2 := hD.c2
      have hc3 := hD.c3
      have hfr := hD.fr
      have HFK := Lib.hid (hk.trans ((Kept.setCell (b := s) (o := 2) (v := .int .i64 0) (by simp [refB])).trans (Kept.setCell (b := s) (o := 3) (v := .bool false) (by simp [refB]))))
      clear hD hk
      go_wp2
      go_end0
      exact ⟨rfl, HF.out, HFK.out⟩
end
end Go.Proofs.Ytdnoniolpplgiaa
