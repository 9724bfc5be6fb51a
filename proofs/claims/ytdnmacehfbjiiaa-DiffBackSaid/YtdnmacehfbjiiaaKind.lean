/- What makes one item of another one; whether items are few: contracts (packages diff, bytes, sumplaw23). -/
import Derived.Test.YtdnmacehfbjiiaaBase
namespace Go.Proofs.Ytdnmacehfbjiiaa
open Go.RowKit Go.Maps Go.Sort Go.Shelf

theorem str_of {w : World} {A : Option Addr} {n : Nat} {bs : List UInt8} (c : Nat) (h : Bytes w A n bs) : (convert 27 9 (.slice A n c)).run Try.prog w = .ok (encStr bs) w := by
  rcases h.2 with h2 | ⟨b, off, rfl, hl, hc⟩
  · have hn : n = 0 := by rw [← h.1, h2]; rfl
    subst h2 hn
    cases A with
    | none => exact run_convert_bytes_nil w 27 5 Try.underlying27 Try.underlying5 0 c 9 Try.underlying9
    | some ad =>
      have hl : (loadCells ad 0).run Try.prog w = .ok (([] : List Int).map (Value.int .u8)).toArray w := by simp [loadCells, loadCellsFrom]
      rw [run_convert_bytes_string w 27 9 5 _ 0 c Try.underlying27 Try.underlying5 Try.underlying9, run_bytesToString w ad 0 c [] hl]
      rfl
  · have := run_convert_bytes_arg w 27 5 Try.underlying27 Try.underlying5 b off n c (bs.map (fun x => (x.toNat : Int))) (by simp [h.1]) (fun i hi => by
      have hi' : i < bs.length := by rw [h.1]; exact hi
      rw [hc i hi']
      simp [List.getD, hi']) 9 Try.underlying9
    rw [this]
    congr 1
    unfold strOfNums encStr
    congr 3
    rw [List.map_map]
    conv => rhs; rw [← List.map_id bs]
    apply List.map_congr_left
    intro x _
    simp
set_option maxHeartbeats 1600000 in
theorem equal_any {w : World} {A B : Option Addr} {n m : Nat} {xs ys : List UInt8} (c c2 : Nat) (h : Bytes w A n xs) (h2 : Bytes w B m ys) : Calls Try.prog 26 #[.slice A n c, .slice B m c2] w fun e w' => e = .returned (.bool (decide (xs = ys))) ∧ w' = w := by
  have h1 := str_of c h
  have h3 := str_of c2 h2
  have hq : (xs == ys) = decide (xs = ys) := by rw [Bool.eq_iff_iff]; simp
  clear h h2
  go_enter Try.func26, Try.ntmps26
  go_wp2
  go_ret
  rw [← hq]
  exact ⟨rfl, rfl⟩
/-- What makes one item of another one. -/
def kindI (x y : It) : Int := if x.kind ≠ y.kind ∨ x.ino ≠ y.ino then 5 else if x.size ≠ y.size then 3 else if x.bs ≠ y.bs then 4 else 0
set_option maxRecDepth 100000 in
set_option maxHeartbeats 4000000 in
theorem kind_any {w : World} {x y : It} (h : Good w x) (h2 : Good w y) : Calls Try.prog 20 #[itV x, itV y] w fun e w' => e = .returned (.int .i64 (kindI x y)) ∧ Below w.heap.size w w' := by
  have hb1 : Below w.heap.size w (w.alloc (.cells (itC x) 29)) := (Below.refl _ _).alloc (Nat.le_refl _) _
  have hb2 : Below w.heap.size w ((w.alloc (.cells (itC x) 29)).alloc (.cells (itC y) 29)) := hb1.alloc hb1.size _
  have CE := Lib.hid (equal_any x.c y.c (h.bytes.below hb2) (h2.bytes.below hb2))
  have HB := Lib.hid hb2
  clear h h2 hb1 hb2
  unfold kindI
  obtain ⟨p1, i1, k1, s1, a1, n1, c1, bs1⟩ := x
  obtain ⟨p2, i2, k2, s2, a2, n2, c2, bs2⟩ := y
  unfold itV itC at *
  dsimp only at *
  by_cases hk : k1 = k2
  · by_cases hi : i1 = i2
    · rw [if_neg (by simp [hk, hi])]
      have q1 : (k1 != k2) = false := by simp [hk]
      have q2 : (i1 != i2) = false := by simp [hi]
      by_cases hs : s1 = s2
      · rw [if_neg (by simp [hs])]
        have q3 : (s1 != s2) = false := by simp [hs]
        by_cases hb : bs1 = bs2
        · rw [if_neg (by simp [hb])]
          have CQ := CE
          rw [decide_eq_true hb] at CQ
          clear CE hb hk hi hs
          go_enter Try.func20, Try.ntmps20
          go_wp2_with (go_at_call 26; refine (CQ.out).mono ?_; rintro e w' ⟨rfl, hw⟩; rw [hw]; clear hw w')
          go_ret
          exact ⟨rfl, HB.out⟩
        · rw [if_pos (by simp [hb])]
          have CQ := CE
          rw [decide_eq_false hb] at CQ
          clear CE hb hk hi hs
          go_enter Try.func20, Try.ntmps20
          go_wp2_with (go_at_call 26; refine (CQ.out).mono ?_; rintro e w' ⟨rfl, hw⟩; rw [hw]; clear hw w')
          go_ret
          exact ⟨rfl, HB.out⟩
      · rw [if_pos (by simp [hs])]
        have q3 : (s1 != s2) = true := by simp [hs]
        clear hk hi hs CE
        go_enter Try.func20, Try.ntmps20
        go_wp2
        go_ret
        exact ⟨rfl, HB.out⟩
    · rw [if_pos (by simp [hi])]
      have q1 : (k1 != k2) = false := by simp [hk]
      have q2 : (i1 != i2) = true := by simp [hi]
      clear hk hi CE
      go_enter Try.func20, Try.ntmps20
      go_wp2
      go_ret
      exact ⟨rfl, HB.out⟩
  · rw [if_pos (by simp [hk])]
    have q1 : (k1 != k2) = true := by simp [hk]
    clear hk CE
    go_enter Try.func20, Try.ntmps20
    go_wp2
    go_ret
    exact ⟨rfl, HB.out⟩

def fewI (xs : List It) : Bool := xs.all (fun x => decide (x.n ≤ 300) && decide (x.p.length ≤ 200)) && decide (xs.length ≤ 30)
theorem fewI_le {xs : List It} (h : fewI xs = true) : xs.length ≤ 30 ∧ ∀ x ∈ xs, x.n ≤ 300 ∧ x.p.length ≤ 200 := by
  unfold fewI at h
  rw [Bool.and_eq_true, List.all_eq_true] at h
  exact ⟨by simpa using h.2, fun x hx => by simpa using h.1 x hx⟩
set_option maxRecDepth 100000 in
set_option maxHeartbeats 4000000 in
theorem few_any {w : World} {A : Option Addr} {n : Nat} {xs : List It} (c : Nat) (h : Items w A n xs) (hm : n ≤ maxLen) : Calls Try.prog 7 #[.slice A n c] w fun e w' => e = .returned (.bool (fewI xs)) ∧ Below w.heap.size w w' := by
  have H := Lib.hid h
  have hlen := h.1
  clear h
  unfold maxLen at hm
  go_enter Try.func7, Try.ntmps7
  go_wp2
  go_loopw [7] (fun u wr => ∃ j : Nat, j ≤ n ∧ u = .int .i64 j ∧ (∀ x ∈ xs.take j, x.n ≤ 300 ∧ x.p.length ≤ 200) ∧ Below w.heap.size w wr) (fun u _ => n - (intOf u).toNat)
  case atStart => exact ⟨0, Nat.zero_le _, rfl, fun x hx => by simp at hx, Below.refl _ _⟩
  case round =>
    obtain ⟨j, hj, rfl, hall, hb⟩ := hrel
    have HALL := Lib.hid hall
    have HB := Lib.hid hb
    clear hall hb
    by_cases hlt : j < n
    · obtain ⟨g, off, rfl, hgl, x, hxj, hG, c0, c1, c2, c3, c4⟩ := (H.out.below HB.out).at hlt
      have HX := Lib.hid hxj
      have hpl := hG.path
      have hdl := hG.data
      have HB1 := Lib.hid (show Below w.heap.size w (wr.alloc (.cells #[encStr x.p, .int .i64 x.ino, .int .i64 x.kind, .int .i64 x.size, .slice x.a x.n x.c] 29)) from HB.out.alloc HB.out.size _)
      unfold maxLen at hpl hdl
      clear hG hxj
      by_cases h1 : x.n ≤ 300
      · have h1' : (x.n : Int) ≤ 300 := by omega
        by_cases h2 : x.p.length ≤ 200
        · have h2' : (x.p.length : Int) ≤ 200 := by omega
          have HN := Lib.hid (show ∀ y ∈ xs.take (j + 1), y.n ≤ 300 ∧ y.p.length ≤ 200 from by
            intro y hy
            rw [take_snoc' HX.out, List.mem_append, List.mem_singleton] at hy
            rcases hy with hy | rfl
            · exact HALL.out y hy
            · exact ⟨h1, h2⟩)
          go_wp2
          go_roundw
          case rel => exact ⟨j + 1, by omega, by go_num, HN.out, HB1.out⟩
          case measure => simp [intOf]; omega
        · have h2' : ¬ (x.p.length : Int) ≤ 200 := by omega
          have HF := Lib.hid (show fewI xs = false from by
            cases e : fewI xs with
            | false => rfl
            | true => exact absurd ((fewI_le e).2 x (List.mem_of_getElem? HX.out)).2 h2)
          go_wp2
          go_ret
          exact ⟨by rw [HF.out]; rfl, HB1.out⟩
      · have h1' : ¬ (x.n : Int) ≤ 300 := by omega
        have HF := Lib.hid (show fewI xs = false from by
          cases e : fewI xs with
          | false => rfl
          | true => exact absurd ((fewI_le e).2 x (List.mem_of_getElem? HX.out)).1 h1)
        go_wp2
        go_ret
        exact ⟨by rw [HF.out]; rfl, HB1.out⟩
    · obtain rfl : j = n := by omega
      have HTK := Lib.hid (show xs.take j = xs from by rw [← hlen]; exact List.take_length)
      have HF := Lib.hid (show fewI xs = decide (j ≤ 30) from by
        unfold fewI
        rw [hlen, show xs.all (fun x => decide (x.n ≤ 300) && decide (x.p.length ≤ 200)) = true from by
          rw [List.all_eq_true]
          intro x hx
          have := HALL.out x (by rw [HTK.out]; exact hx)
          simp [this], Bool.true_and])
      have hq : decide ((j : Int) ≤ 30) = decide (j ≤ 30) := by apply decide_eq_decide.2; omega
      go_wp2
      go_ret
      exact ⟨by rw [HF.out, ← hq]; rfl, HB.out⟩
end Go.Proofs.Ytdnmacehfbjiiaa
