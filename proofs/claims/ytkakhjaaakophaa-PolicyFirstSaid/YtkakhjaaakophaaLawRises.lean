/- The law PolicyRises of package sumplaw02: of plain numbers syncs more make no score less, and no eager file lazy. The walk. -/
import Derived.Test.YtkakhjaaakophaaLawRuns
import Derived.Test.YtkakhjaaakophaaRises
import Derived.Laws.AppendOwnNone
namespace Go.Proofs.Ytkakhjaaakophaa
open Go.RowKit Fl

set_option maxHeartbeats 400000 in
theorem rises_many (k g l : Nat) (A A2 : Option Addr) (n n2 cap cap2 : Nat) (w : World) (hn : 100 < n) (hm : n ≤ maxLen) (_ : n2 ≤ maxLen) : Calls Try.prog 3 #[pv k g l, .slice A n cap, .slice A2 n2 cap2] w fun e w' => e = .returned (.bool true) ∧ Below w.heap.size w w' := by
  unfold pv
  unfold maxLen at hm
  have hn1 : (100 : Int) < (n : Int) := by omega
  go_enter Try.func3, Try.ntmps3
  go_wp2_with (go_at_call 10; refine (awake2 _).mono ?_; rintro e w1 ⟨rfl, hb1⟩)
  go_ret
  exact ⟨rfl, ((Below.refl _ _).alloc (Nat.le_refl _) _).trans (hb1.mono (by simp))⟩

set_option maxHeartbeats 400000 in
theorem rises_other (k g l : Nat) (A A2 : Option Addr) (n n2 cap cap2 : Nat) (w : World) (hn : n ≤ 100) (_ : n2 ≤ maxLen) (hne : ¬ n2 = n) : Calls Try.prog 3 #[pv k g l, .slice A n cap, .slice A2 n2 cap2] w fun e w' => e = .returned (.bool true) ∧ Below w.heap.size w w' := by
  unfold pv
  have hn1 : ¬ (100 : Int) < (n : Int) := by omega
  have hne1 : ((n2 : Int) != (n : Int)) = true := by rw [bne_iff_ne]; omega
  clear hne
  go_enter Try.func3, Try.ntmps3
  go_wp2_with (go_at_call 10; refine (awake2 _).mono ?_; rintro e w1 ⟨rfl, hb1⟩)
  go_ret
  exact ⟨rfl, ((Below.refl _ _).alloc (Nat.le_refl _) _).trans (hb1.mono (by simp))⟩

set_option maxHeartbeats 800000 in
theorem rises_dull (k g l : Nat) (A A2 : Option Addr) (n cap cap2 : Nat) (w : World) (hn : n ≤ 100) (hp : plainB (ab k) (ab g) (ab l) = false) : Calls Try.prog 3 #[pv k g l, .slice A n cap, .slice A2 n cap2] w fun e w' => e = .returned (.bool true) ∧ Below w.heap.size w w' := by
  have hn1 : ¬ (100 : Int) < (n : Int) := by omega
  have C0 := Ctx.start (w0 := w) k g l (A := none) (n := 0) (bs := []) ⟨rfl, .inl rfl⟩
  have CP := Lib.hid (plain_any k g l)
  rw [hp] at CP
  unfold pv at CP ⊢
  go_enter Try.func3, Try.ntmps3
  go_wp2_with (first | (go_at_call 10; refine (awake2 _).mono ?_; rintro e w1 ⟨rfl, hb1⟩; have C1 := C0.step hb1; obtain ⟨p0, p1, p2⟩ := C1.cells) | (go_at_call 11; refine (CP.out _).mono ?_; rintro e w2 ⟨rfl, hb2⟩))
  go_ret
  exact ⟨rfl, (C1.step hb2).below⟩

theorem bools_news {w : World} {ad : Addr} {n : Nat} {bs : List Bool} (h : Bools w (some ad) n bs) : ∀ (j : Nat) (u : Value), (bs.map Value.bool)[j]? = some u → w.cell? (ad.add j) = some u := by
  intro j u hu
  rcases h.2 with h | ⟨b, off, h, _, hc⟩
  · subst h; simp at hu
  · cases h
    rw [List.getElem?_map] at hu
    cases hx : bs[j]? with
    | none => rw [hx] at hu; cases hu
    | some x =>
      rw [hx] at hu; cases hu
      obtain ⟨hj, hx⟩ := List.getElem?_eq_some_iff.1 hx
      rw [show (⟨b, off, none⟩ : Addr).add j = ⟨b, off + j, none⟩ from by unfold Addr.add; split <;> simp_all, hc j hj, hx]

theorem row_shape {w : World} {base n : Nat} {e : TypeId} {v : Value} {xs : List Value} (h : w.ownsRow base e 1 v n xs) : ∃ X c, v = .slice X n c := by
  rcases h.2 with ⟨rfl, rfl⟩ | ⟨g, cap, cur, rfl, _⟩ <;> exact ⟨_, _, rfl⟩

theorem keepR {w0 w w1 w2 : World} {k g l : Nat} (hl : w0.heap.size < w.heap.size) (h : w1.cell? ⟨w0.heap.size, 0, none⟩ = some (.float .f64 k) ∧ w1.cell? ⟨w0.heap.size, 1, none⟩ = some (.float .f64 g) ∧ w1.cell? ⟨w0.heap.size, 2, none⟩ = some (.float .f64 l) ∧ Below w.heap.size w w1) (hb : Below w1.heap.size w1 w2) :
    w2.cell? ⟨w0.heap.size, 0, none⟩ = some (.float .f64 k) ∧ w2.cell? ⟨w0.heap.size, 1, none⟩ = some (.float .f64 g) ∧ w2.cell? ⟨w0.heap.size, 2, none⟩ = some (.float .f64 l) ∧ Below w.heap.size w w2 := by
  have hl1 : w0.heap.size < w1.heap.size := Nat.lt_of_lt_of_le hl h.2.2.2.size
  exact ⟨(hb.cell hl1).trans h.1, (hb.cell hl1).trans h.2.1, (hb.cell hl1).trans h.2.2.1, h.2.2.2.trans (hb.mono h.2.2.2.size)⟩
theorem bools_of_row {w : World} {base n c : Nat} {X : Option Addr} {xs : List Bool} (h : w.ownsRow base 4 1 (.slice X n c) n (xs.map Value.bool)) : Bools w X n xs := by
  have hl := h.1
  simp at hl
  refine ⟨hl, ?_⟩
  rcases h.2 with ⟨_, h0⟩ | ⟨g, cap, cur, e, _⟩
  · left; exact List.length_eq_zero_iff.1 (by omega)
  · cases e
    right
    refine ⟨g, 0, rfl, (h.lt g rfl).2, fun i hi => ?_⟩
    rw [Nat.zero_add, h.cellAt i (by omega), List.getElem?_map, List.getElem?_eq_getElem hi]; rfl

theorem keepE {w0 w w1 w2 : World} {k g l ga gb j x y : Nat} (hl : w0.heap.size < w.heap.size) (hga : ga < w.heap.size) (hgb : gb < w.heap.size) (h : w1.cell? ⟨w0.heap.size, 0, none⟩ = some (.float .f64 k) ∧ w1.cell? ⟨w0.heap.size, 1, none⟩ = some (.float .f64 g) ∧ w1.cell? ⟨w0.heap.size, 2, none⟩ = some (.float .f64 l) ∧ w1.cell? ⟨ga, j, none⟩ = some (.float .f64 x) ∧ w1.cell? ⟨gb, j, none⟩ = some (.float .f64 y) ∧ Below w.heap.size w w1) (hb : Below w1.heap.size w1 w2) :
    w2.cell? ⟨w0.heap.size, 0, none⟩ = some (.float .f64 k) ∧ w2.cell? ⟨w0.heap.size, 1, none⟩ = some (.float .f64 g) ∧ w2.cell? ⟨w0.heap.size, 2, none⟩ = some (.float .f64 l) ∧ w2.cell? ⟨ga, j, none⟩ = some (.float .f64 x) ∧ w2.cell? ⟨gb, j, none⟩ = some (.float .f64 y) ∧ Below w.heap.size w w2 := by
  obtain ⟨h1, h2, h3, h4, h5, h6⟩ := h
  have hs := h6.size
  exact ⟨(hb.cell (Nat.lt_of_lt_of_le hl hs)).trans h1, (hb.cell (Nat.lt_of_lt_of_le hl hs)).trans h2, (hb.cell (Nat.lt_of_lt_of_le hl hs)).trans h3, (hb.cell (Nat.lt_of_lt_of_le hga hs)).trans h4, (hb.cell (Nat.lt_of_lt_of_le hgb hs)).trans h5, h6.trans (hb.mono hs)⟩
theorem row_at {w : World} {base n c : Nat} {X : Option Addr} {rs : List Nat} (h : w.ownsRow base 22 1 (.slice X n c) n (rs.map (Value.float .f64))) {j : Nat} (hj : j < n) :
    ∃ g, X = some ⟨g, 0, none⟩ ∧ g < w.heap.size ∧ ∃ x, rs[j]? = some x ∧ w.cell? ⟨g, j, none⟩ = some (.float .f64 x) := by
  rcases h.2 with ⟨_, h0⟩ | ⟨g, cap, cur, e, _⟩
  · omega
  · cases e
    obtain ⟨h1, h2, h3, h4⟩ := reads_cells h
    have hjr : j < rs.length := by omega
    refine ⟨g, rfl, h2, rs[j], List.getElem?_eq_getElem hjr, ?_⟩
    have := h4 j hjr
    rwa [Nat.zero_add] at this

theorem Try.info4 : (Try.prog.info? 4).map (fun i => (i.zero, i.size, i.bytes)) = some (some (.bool false), 1, 1) := by kernel_rfl

/-- What is synced in one or the other. -/
def orL (bs ys : List Bool) : List Bool := List.zipWith (· || ·) bs ys

theorem orL_len {bs ys : List Bool} {j : Nat} (hb : j ≤ bs.length) (hy : j ≤ ys.length) : (orL (bs.take j) (ys.take j)).length = j := by
  unfold orL; rw [List.length_zipWith, List.length_take, List.length_take]; omega
theorem orL_at {bs ys : List Bool} {j : Nat} (hb : j < bs.length) (hy : j < ys.length) : (orL (bs.take j) (ys.take j) ++ bs.drop j)[j]? = some bs[j] := by
  rw [List.getElem?_append_right (by rw [orL_len (by omega) (by omega)]; omega), orL_len (by omega) (by omega), Nat.sub_self, List.getElem?_drop, Nat.add_zero, List.getElem?_eq_getElem hb]
theorem orL_step {bs ys : List Bool} {j : Nat} (hb : j < bs.length) (hy : j < ys.length) : (orL (bs.take j) (ys.take j) ++ bs.drop j).set j (bs[j] || ys[j]) = orL (bs.take (j + 1)) (ys.take (j + 1)) ++ bs.drop (j + 1) := by
  have hl := orL_len (bs := bs) (ys := ys) (j := j) (by omega) (by omega)
  rw [List.set_append_right _ _ (by omega), hl, Nat.sub_self, List.drop_eq_getElem_cons hb, List.set_cons_zero]
  have : orL (bs.take (j + 1)) (ys.take (j + 1)) = orL (bs.take j) (ys.take j) ++ [bs[j] || ys[j]] := by
    unfold orL
    rw [List.take_succ_eq_append_getElem hb, List.take_succ_eq_append_getElem hy, List.zipWith_append (by simp; omega)]
    rfl
  rw [this, List.append_assoc]; rfl
theorem orL_get {bs ys : List Bool} (h : bs.length = ys.length) (i : Nat) (hi : bs[i]? = some true) : (orL bs ys)[i]? = some true := by
  unfold orL
  have hb : i < bs.length := (List.getElem?_eq_some_iff.1 hi).1
  rw [List.getElem?_zipWith, hi, List.getElem?_eq_getElem (by omega)]; rfl

set_option maxRecDepth 100000 in
set_option maxHeartbeats 4000000 in
theorem rises_main (k g l : Nat) (A A2 : Option Addr) (n cap cap2 : Nat) (bs ys : List Bool) (w : World) (hn : n ≤ 100) (hv : Bools w A n bs) (hy : Bools w A2 n ys) (hp : plainB (ab k) (ab g) (ab l) = true) (hA : A = none → cap = 0) :
    Calls Try.prog 3 #[pv k g l, .slice A n cap, .slice A2 n cap2] w fun e w' => e = .returned (.bool true) ∧ Below w.heap.size w w' := by
  obtain ⟨i0, hi, hz0, hz1, hz2⟩ := info_parts Try.info4
  have hn1 : ¬ (100 : Int) < (n : Int) := by omega
  have C0 := Ctx.start k g l hv
  have Y0 : Bools (w.alloc (.cells #[.float .f64 k, .float .f64 g, .float .f64 l] 24)) A2 n ys := hy.below ((Below.refl _ _).alloc (Nat.le_refl _) _)
  have CP := Lib.hid (plain_any k g l)
  rw [hp] at CP
  have HP := Lib.hid hp
  clear hp hv hy
  unfold pv at CP ⊢
  go_enter Try.func3, Try.ntmps3
  go_wp2_with fail
  refine (awake2 _).mono ?_
  rintro e w1 ⟨rfl, hb1⟩
  have C1 := C0.step hb1
  have Y1 := Y0.below hb1
  obtain ⟨p0, p1, p2⟩ := C1.cells
  go_wp2_with fail
  refine (CP.out _).mono ?_
  rintro e w2 ⟨rfl, hb2⟩
  have C2 := C1.step hb2
  have Y2 := Y1.below hb2
  obtain ⟨q0, q1, q2⟩ := C2.cells
  go_upto_region 5 with fail
  go_cut [7] (fun v wx => wx.ownsRow w2.heap.size 4 1 v n (bs.map Value.bool) ∧ Below w2.heap.size w2 wx)
  case first =>
    clear CP C0 C1 Y0 Y1 p0 p1 p2 q0 q1 q2
    cases A with
    | none =>
      have h0 := hA rfl
      have hn0 : n = 0 := by
        have h1 := C2.bools.1
        rcases C2.bools.2 with h | ⟨b, off, h, _⟩
        · rw [h] at h1; exact h1.symm
        · cases h
      have hbs : bs = [] := by have h1 := C2.bools.1; rw [hn0] at h1; exact List.length_eq_zero_iff.1 h1
      subst h0
      subst hn0
      subst hbs
      go_wp2_with (at_builtin; refine wpList_append_own_none rfl _ _ 25 rfl w2.heap.size 4 i0 1 Try.underlying25 hi _ 0 [] rfl (World.ownsRow_nil _ _ _ _) rfl ?_)
      go_meet
      case rel => exact ⟨World.ownsRow_nil _ _ _ _, Below.refl _ _⟩
    | some ad =>
      have hnews := Lib.hid (bools_news C2.bools)
      have hlb : (bs.map Value.bool).length = n * 1 := by rw [List.length_map, C2.bools.1]; omega
      go_wp2_with (at_builtin; refine wpList_append_own _ rfl _ _ 25 rfl w2.heap.size 4 i0 (.bool false) 1 1 Try.underlying25 hi hz0 hz1 hz2 rfl (by decide) _ 0 [] rfl (World.ownsRow_nil _ _ _ _) ad n cap (bs.map Value.bool) rfl hlb hnews.out ?c2 ?c3 ?c4 ?c5 ?_)
      case c2 => intro u hu; obtain ⟨x, _, rfl⟩ := List.mem_map.1 hu; rfl
      case c3 => unfold maxLen; omega
      case c4 => omega
      case c5 => exact Nat.le_refl _
      intro v' w3 hown3 hgrow3 _
      have hown3 : w3.ownsRow w2.heap.size 4 1 v' n (bs.map Value.bool) := by simpa using hown3
      go_wp2
      go_meet
      case rel => exact ⟨hown3, (Below.refl _ _).grown hgrow3 (Nat.le_refl _) (fun i hi => by simp [Value.ownBlock] at hi)⟩
  case rest =>
    obtain ⟨hown, hbz⟩ := hcut
    have C3 := C2.step hbz
    have Y3 := Y2.below hbz
    obtain ⟨r0, r1, r2⟩ := C3.cells
    obtain ⟨X, c, rfl⟩ := row_shape hown
    have hlen : bs.length = n := C3.bools.1
    have hleny : ys.length = n := Y3.1
    have Hlen := Lib.hid hlen
    have Hleny := Lib.hid hleny
    clear CP C0 C1 Y0 Y1 p0 p1 p2 q0 q1 q2 hb1 hb2 hlen hleny
    go_wp2
    go_loopw [33] (fun i wr => ∃ (j : Nat) (xs : List Bool), j ≤ n ∧ i = .int .i64 j ∧ xs = orL (bs.take j) (ys.take j) ++ bs.drop j ∧ wr.ownsRow w2.heap.size 4 1 (.slice X n c) n (xs.map Value.bool) ∧ Below w2.heap.size w2 wr) (fun i _ => n - (intOf i).toNat)
    case atStart => exact ⟨0, bs, Nat.zero_le _, rfl, by simp [orL], hown, hbz⟩
    case round =>
      obtain ⟨j, xs, hj, rfl, hxs, howx, hbx⟩ := hrel
      by_cases hlt : j < n
      · have hjb : j < bs.length := by rw [Hlen.out]; exact hlt
        have hjy : j < ys.length := by rw [Hleny.out]; exact hlt
        obtain ⟨g0, rfl, hg0⟩ : ∃ g0, X = some ⟨g0, 0, none⟩ ∧ w2.heap.size ≤ g0 := by
          rcases howx.2 with ⟨_, h⟩ | ⟨g0, cap0, cur, h, hb, _⟩
          · omega
          · cases h; exact ⟨g0, rfl, hb⟩
        obtain ⟨b2, o2, rfl, hb2, hcy⟩ : ∃ b2 o2, A2 = some ⟨b2, o2, none⟩ ∧ b2 < w2.heap.size ∧ ∀ i, (h : i < ys.length) → w2.cell? ⟨b2, o2 + i, none⟩ = some (.bool ys[i]) := by
          rcases Y2.2 with h | h
          · subst h; simp at hjy
          · exact h
        have hxj : xs[j]? = some bs[j] := by rw [hxs]; exact orL_at hjb hjy
        have hset := orL_step hjb hjy
        rw [← hxs] at hset
        have hcx : wr.cell? ⟨g0, j, none⟩ = some (.bool bs[j]) := by rw [howx.cellAt j (by omega), List.getElem?_map, hxj]; rfl
        have hfx := howx.frozenAt j
        have hcm : wr.cell? ⟨b2, o2 + j, none⟩ = some (.bool ys[j]) := (hbx.cell hb2).trans (hcy j hjy)
        generalize bs[j] = x at *
        generalize ys[j] = y at *
        have Hset := Lib.hid hset
        have hst := howx.stored j (.bool (x || y))
        rw [← List.map_set, hset] at hst
        have Hst := Lib.hid hst
        have hbelow : Below w2.heap.size w2 (wr.setCell ⟨g0, j, none⟩ (.bool (x || y))) := hbx.setCell hg0 _
        clear hset hst hxj hxs hcy howx hbx
        cases x
        · simp only [Bool.false_or] at *
          go_wp2
          go_roundw
          case rel => exact ⟨j + 1, _, by omega, by go_num, rfl, Hst.out.1, hbelow⟩
          case measure => simp [intOf]; omega
        · simp only [Bool.true_or] at *
          go_wp2
          go_roundw
          case rel => exact ⟨j + 1, _, by omega, by go_num, rfl, Hst.out.1, hbelow⟩
          case measure => simp [intOf]; omega
      · have e : j = n := by omega
        have et : xs = orL bs ys := by rw [hxs, List.take_of_length_le (by rw [Hlen.out]; omega), List.take_of_length_le (by rw [Hleny.out]; omega), List.drop_eq_nil_of_le (by rw [Hlen.out]; omega), List.append_nil]
        have hge : ¬ (j : Int) < (n : Int) := by omega
        have C4 := C2.step hbx
        have BX := bools_of_row howx
        obtain ⟨s0, s1, s2⟩ := C4.cells
        have hwl := C4.lt
        have CA : ∀ w', (w'.cell? ⟨w.heap.size, 0, none⟩ = some (.float .f64 k) ∧ w'.cell? ⟨w.heap.size, 1, none⟩ = some (.float .f64 g) ∧ w'.cell? ⟨w.heap.size, 2, none⟩ = some (.float .f64 l) ∧ Below wr.heap.size wr w') → Calls Try.prog 12 #[.agg #[.float .f64 k, .float .f64 g, .float .f64 l], .slice A n cap] w' (RunIs (arun (ab k) (ab g) (ab 0) bs) w') :=
          fun w' h => run_of k g l cap (C4.bools.below h.2.2.2) (by omega)
        have CB : ∀ w', (w'.cell? ⟨w.heap.size, 0, none⟩ = some (.float .f64 k) ∧ w'.cell? ⟨w.heap.size, 1, none⟩ = some (.float .f64 g) ∧ w'.cell? ⟨w.heap.size, 2, none⟩ = some (.float .f64 l) ∧ Below wr.heap.size wr w') → Calls Try.prog 12 #[.agg #[.float .f64 k, .float .f64 g, .float .f64 l], .slice X n c] w' (RunIs (arun (ab k) (ab g) (ab 0) xs) w') :=
          fun w' h => run_of k g l c (BX.below h.2.2.2) (by omega)
        have CA1 := Lib.hid CA
        have CB1 := Lib.hid CB
        have Het := Lib.hid et
        clear CA CB hxs e et hlt hj howx C3 Y3 hown hbz r0 r1 r2
        go_upto_region 11 with fail
        go_region_held3 (fun w' => w'.cell? ⟨w.heap.size, 0, none⟩ = some (.float .f64 k) ∧ w'.cell? ⟨w.heap.size, 1, none⟩ = some (.float .f64 g) ∧ w'.cell? ⟨w.heap.size, 2, none⟩ = some (.float .f64 l) ∧ Below wr.heap.size wr w')
          (first | (refine ⟨?_, ?_, ?_, ?_⟩ <;> first | exact (Below.refl _ _).drew | go_keep) | exact keepR hwl (by assumption) hba | exact keepR hwl (by assumption) hbb)
          ((first | (go_at_call 12; first | ((with_reducible refine (CA1.out _ (by assumption)).mono ?_); rintro e wa ⟨va, ra, rfl, hoa, hra, hba⟩) | ((with_reducible refine (CB1.out _ (by assumption)).mono ?_); rintro e wb ⟨vb, rb, rfl, hob, hrb, hbb⟩))))
        have HS : wb.cell? ⟨w.heap.size, 0, none⟩ = some (.float .f64 k) ∧ wb.cell? ⟨w.heap.size, 1, none⟩ = some (.float .f64 g) ∧ wb.cell? ⟨w.heap.size, 2, none⟩ = some (.float .f64 l) ∧ Below wr.heap.size wr wb := by assumption
        have hla : (arun (ab k) (ab g) (ab 0) bs).length = n := by rw [arun_length]; exact Hlen.out
        have hlb : (arun (ab k) (ab g) (ab 0) xs).length = n := by rw [arun_length]; exact BX.1
        rw [hla] at hoa
        rw [hlb] at hob
        obtain ⟨XA, cA, rfl⟩ := row_shape hoa
        obtain ⟨XB, cB, rfl⟩ := row_shape hob
        have hoa2 := hoa.belowK hbb
        have hwlb : w.heap.size < wb.heap.size := Nat.lt_of_lt_of_le hwl HS.2.2.2.size
        have hbits := fun (i x y : Nat) (hx : ra[i]? = some x) (hy : rb[i]? = some y) => rises_bits HP.out (by rw [Het.out]; unfold orL; rw [List.length_zipWith, Hlen.out, Hleny.out]; omega) (by rw [Het.out]; exact orL_get (Hlen.out.trans Hleny.out.symm)) hra hrb hx hy
        have Hbits := Lib.hid hbits
        have Hoa := Lib.hid hoa2
        have Hob := Lib.hid hob
        have HBw : Below w.heap.size w wb := C4.below.trans (HS.2.2.2.mono C4.below.size)
        have CE := Lib.hid (eager_any k g l)
        unfold pv at CE
        clear hbits hoa hoa2 hob hra hrb hla hlb hba hbb hbx CA1 CB1 BX Het C4 C2 Y2 Hleny Hlen hge s0 s1 s2
        obtain ⟨t0, t1, t2, _⟩ := HS
        go_wp2
        go_loopw [70] (fun i wx => ∃ j : Nat, j ≤ n ∧ i = .int .i64 j ∧ Below wb.heap.size wb wx) (fun i _ => n - (intOf i).toNat)
        case atStart => exact ⟨0, Nat.zero_le _, rfl, Below.refl _ _⟩
        case round =>
          obtain ⟨j, hj, rfl, hx⟩ := hrel
          by_cases hlt : j < n
          · obtain ⟨ga, rfl, hga, hca⟩ := row_at Hoa.out hlt
            obtain ⟨gb, rfl, hgb, hcb⟩ := row_at Hob.out hlt
            obtain ⟨x, hrx, hcx0⟩ := hca
            obtain ⟨y, hry, hcy0⟩ := hcb
            obtain ⟨hq1, hq2, hq3⟩ := Hbits.out j x y hrx hry
            have hcx : wr.cell? ⟨ga, j, none⟩ = some (.float .f64 x) := (hx.cell hga).trans hcx0
            have hcy : wr.cell? ⟨gb, j, none⟩ = some (.float .f64 y) := (hx.cell hgb).trans hcy0
            have u0 := (hx.cell (p := ⟨w.heap.size, 0, none⟩) hwlb).trans t0
            have u1 := (hx.cell (p := ⟨w.heap.size, 1, none⟩) hwlb).trans t1
            have u2 := (hx.cell (p := ⟨w.heap.size, 2, none⟩) hwlb).trans t2
            have CEx := CE.out x
            have CEy := CE.out y
            rw [ageq_is] at hq1
            rw [alss_is] at hq2
            clear Hbits Hoa Hob CE hrx hry hcx0 hcy0 t0 t1 t2
            generalize ageq (ab x) (ab l) = bx at *
            generalize ageq (ab y) (ab l) = cy at *
            have CEx := Lib.hid CEx
            have CEy := Lib.hid CEy
            have hj0 : (0 : Int) ≤ (j : Int) := by omega
            have hj1 : (j : Int) < (n : Int) := by omega
            cases bx
            · clear hq3
              go_upto_region 17 with fail
              refine wp_region_held_drew (S := fun w' => w'.cell? ⟨w.heap.size, 0, none⟩ = some (.float .f64 k) ∧ w'.cell? ⟨w.heap.size, 1, none⟩ = some (.float .f64 g) ∧ w'.cell? ⟨w.heap.size, 2, none⟩ = some (.float .f64 l) ∧ w'.cell? ⟨ga, j, none⟩ = some (.float .f64 x) ∧ w'.cell? ⟨gb, j, none⟩ = some (.float .f64 y) ∧ Below wb.heap.size wb w') (by kernel_rfl) ?_ (fun hHeld => ?_)
              · (refine ⟨?_, ?_, ?_, ?_, ?_, ?_⟩ <;> first | exact hx.drew | go_keep)
              refine wpAnyH_take (i := 0) (oi := { dst := some 73, op := Op.move (Operand.tmp 10), type := 28, pos := "law.go:53", after := #[], guard := none }) (v := ?v0) rfl (by kernel_rfl) (by kernel_rfl) (by kernel_rfl) (fun _ _ _ h => h) (Or.inl ⟨by rfl, ?y0⟩) (by assumption) ?_
              case y0 => (intro w hSw; (try dsimp only at hSw); go_simp; first | done | with_reducible rfl)
              (try simp only [Act.put, List.setIfInBounds_toArray, List.set_cons_zero, List.set_cons_succ])
              refine wpAnyH_take (i := 1) (oi := { dst := some 74, op := Op.move (Operand.tmp 11), type := 3, pos := "law.go:53", after := #[], guard := none }) (v := ?v1) rfl (by kernel_rfl) (by kernel_rfl) (by kernel_rfl) (fun _ _ _ h => h) (Or.inl ⟨by rfl, ?y1⟩) (by assumption) ?_
              case y1 => (intro w hSw; (try dsimp only at hSw); go_simp; first | done | with_reducible rfl)
              (try simp only [Act.put, List.setIfInBounds_toArray, List.set_cons_zero, List.set_cons_succ])
              refine wpAnyH_take (i := 2) (oi := { dst := some 75, op := Op.indexAddr 28 (Operand.tmp 73) (Operand.tmp 74), type := 0, pos := "law.go:53", after := #[{ on := 0, ground := Ground.data }, { on := 1, ground := Ground.data }], guard := none }) (v := ?v2) rfl (by kernel_rfl) (by kernel_rfl) (by kernel_rfl) (fun _ _ _ h => h) (Or.inl ⟨by rfl, ?y2⟩) (by assumption) ?_
              case y2 => (intro w hSw; (try dsimp only at hSw); go_simp; first | done | with_reducible rfl)
              (try simp only [Act.put, List.setIfInBounds_toArray, List.set_cons_zero, List.set_cons_succ])
              refine wpAnyH_take (i := 3) (oi := { dst := some 76, op := Op.load 22 (Operand.tmp 75), type := 22, pos := "law.go:53", after := #[{ on := 2, ground := Ground.data }], guard := none }) (v := ?v3) rfl (by kernel_rfl) (by kernel_rfl) (by kernel_rfl) (fun _ _ _ h => h) (Or.inl ⟨by rfl, ?y3⟩) (by assumption) ?_
              case y3 => (intro w hSw; (try dsimp only at hSw); go_simp; first | done | with_reducible rfl)
              (try simp only [Act.put, List.setIfInBounds_toArray, List.set_cons_zero, List.set_cons_succ])
              refine wpAnyH_take (i := 4) (oi := { dst := some 77, op := Op.move (Operand.tmp 9), type := 28, pos := "law.go:53", after := #[], guard := none }) (v := ?v4) rfl (by kernel_rfl) (by kernel_rfl) (by kernel_rfl) (fun _ _ _ h => h) (Or.inl ⟨by rfl, ?y4⟩) (by assumption) ?_
              case y4 => (intro w hSw; (try dsimp only at hSw); go_simp; first | done | with_reducible rfl)
              (try simp only [Act.put, List.setIfInBounds_toArray, List.set_cons_zero, List.set_cons_succ])
              refine wpAnyH_take (i := 5) (oi := { dst := some 78, op := Op.move (Operand.tmp 11), type := 3, pos := "law.go:53", after := #[], guard := none }) (v := ?v5) rfl (by kernel_rfl) (by kernel_rfl) (by kernel_rfl) (fun _ _ _ h => h) (Or.inl ⟨by rfl, ?y5⟩) (by assumption) ?_
              case y5 => (intro w hSw; (try dsimp only at hSw); go_simp; first | done | with_reducible rfl)
              (try simp only [Act.put, List.setIfInBounds_toArray, List.set_cons_zero, List.set_cons_succ])
              refine wpAnyH_take (i := 6) (oi := { dst := some 79, op := Op.indexAddr 28 (Operand.tmp 77) (Operand.tmp 78), type := 0, pos := "law.go:53", after := #[{ on := 4, ground := Ground.data }, { on := 5, ground := Ground.data }], guard := none }) (v := ?v6) rfl (by kernel_rfl) (by kernel_rfl) (by kernel_rfl) (fun _ _ _ h => h) (Or.inl ⟨by rfl, ?y6⟩) (by assumption) ?_
              case y6 => (intro w hSw; (try dsimp only at hSw); go_simp; first | done | with_reducible rfl)
              (try simp only [Act.put, List.setIfInBounds_toArray, List.set_cons_zero, List.set_cons_succ])
              refine wpAnyH_take (i := 7) (oi := { dst := some 80, op := Op.load 22 (Operand.tmp 79), type := 22, pos := "law.go:53", after := #[{ on := 6, ground := Ground.data }], guard := none }) (v := ?v7) rfl (by kernel_rfl) (by kernel_rfl) (by kernel_rfl) (fun _ _ _ h => h) (Or.inl ⟨by rfl, ?y7⟩) (by assumption) ?_
              case y7 => (intro w hSw; (try dsimp only at hSw); go_simp; first | done | with_reducible rfl)
              (try simp only [Act.put, List.setIfInBounds_toArray, List.set_cons_zero, List.set_cons_succ])
              refine wpAnyH_take (i := 8) (oi := { dst := some 81, op := Op.binOp BinOp.geq 22 (Operand.tmp 76) (Operand.tmp 80) 22, type := 4, pos := "law.go:53", after := #[{ on := 3, ground := Ground.data }, { on := 7, ground := Ground.data }], guard := none }) (v := ?v8) rfl (by kernel_rfl) (by kernel_rfl) (by kernel_rfl) (fun _ _ _ h => h) (Or.inl ⟨by rfl, ?y8⟩) (by assumption) ?_
              case y8 => (intro w hSw; (try dsimp only at hSw); go_simp; first | done | with_reducible rfl)
              (try simp only [Act.put, List.setIfInBounds_toArray, List.set_cons_zero, List.set_cons_succ])
              refine wpAnyH_take (i := 9) (oi := { dst := some 82, op := Op.unOp UnOp.not 4 (Operand.tmp 81), type := 4, pos := "law.go:53", after := #[{ on := 8, ground := Ground.data }], guard := none }) (v := ?v9) rfl (by kernel_rfl) (by kernel_rfl) (by kernel_rfl) (fun _ _ _ h => h) (Or.inl ⟨by rfl, ?y9⟩) (by assumption) ?_
              case y9 => (intro w hSw; (try dsimp only at hSw); go_simp; first | done | with_reducible rfl)
              (try simp only [Act.put, List.setIfInBounds_toArray, List.set_cons_zero, List.set_cons_succ])
              refine wpAnyH_take (i := 10) (oi := { dst := some 83, op := Op.move (Operand.tmp 82), type := 4, pos := "law.go:53", after := #[{ on := 9, ground := Ground.data }], guard := none }) (v := ?v10) rfl (by kernel_rfl) (by kernel_rfl) (by kernel_rfl) (fun _ _ _ h => h) (Or.inl ⟨by rfl, ?y10⟩) (by assumption) ?_
              case y10 => (intro w hSw; (try dsimp only at hSw); go_simp; first | done | with_reducible rfl)
              (try simp only [Act.put, List.setIfInBounds_toArray, List.set_cons_zero, List.set_cons_succ])
              refine wpAnyH_take (i := 11) (oi := { dst := some 84, op := Op.move (Operand.tmp 9), type := 28, pos := "law.go:53", after := #[{ on := 10, ground := Ground.guard }], guard := some (10, false) }) (v := ?v11) rfl (by kernel_rfl) (by kernel_rfl) (by kernel_rfl) (fun _ _ _ h => h) (Or.inl ⟨by rfl, ?y11⟩) (by assumption) ?_
              case y11 => (intro w hSw; (try dsimp only at hSw); go_simp; first | done | with_reducible rfl)
              (try simp only [Act.put, List.setIfInBounds_toArray, List.set_cons_zero, List.set_cons_succ])
              refine wpAnyH_take (i := 12) (oi := { dst := some 85, op := Op.move (Operand.tmp 11), type := 3, pos := "law.go:53", after := #[{ on := 10, ground := Ground.guard }], guard := some (10, false) }) (v := ?v12) rfl (by kernel_rfl) (by kernel_rfl) (by kernel_rfl) (fun _ _ _ h => h) (Or.inl ⟨by rfl, ?y12⟩) (by assumption) ?_
              case y12 => (intro w hSw; (try dsimp only at hSw); go_simp; first | done | with_reducible rfl)
              (try simp only [Act.put, List.setIfInBounds_toArray, List.set_cons_zero, List.set_cons_succ])
              refine wpAnyH_take (i := 13) (oi := { dst := some 86, op := Op.indexAddr 28 (Operand.tmp 84) (Operand.tmp 85), type := 0, pos := "law.go:53", after := #[{ on := 11, ground := Ground.data }, { on := 12, ground := Ground.data }, { on := 10, ground := Ground.guard }], guard := some (10, false) }) (v := ?v13) rfl (by kernel_rfl) (by kernel_rfl) (by kernel_rfl) (fun _ _ _ h => h) (Or.inl ⟨by rfl, ?y13⟩) (by assumption) ?_
              case y13 => (intro w hSw; (try dsimp only at hSw); go_simp; first | done | with_reducible rfl)
              (try simp only [Act.put, List.setIfInBounds_toArray, List.set_cons_zero, List.set_cons_succ])
              refine wpAnyH_take (i := 14) (oi := { dst := some 87, op := Op.load 22 (Operand.tmp 86), type := 22, pos := "law.go:53", after := #[{ on := 13, ground := Ground.data }, { on := 10, ground := Ground.guard }], guard := some (10, false) }) (v := ?v14) rfl (by kernel_rfl) (by kernel_rfl) (by kernel_rfl) (fun _ _ _ h => h) (Or.inl ⟨by rfl, ?y14⟩) (by assumption) ?_
              case y14 => (intro w hSw; (try dsimp only at hSw); go_simp; first | done | with_reducible rfl)
              (try simp only [Act.put, List.setIfInBounds_toArray, List.set_cons_zero, List.set_cons_succ])
              refine wpAnyH_take (i := 15) (oi := { dst := some 88, op := Op.binOp BinOp.lss 22 (Operand.tmp 87) (Operand.const (Value.float FloatKind.f64 0)) 22, type := 4, pos := "law.go:53", after := #[{ on := 14, ground := Ground.data }, { on := 10, ground := Ground.guard }], guard := some (10, false) }) (v := ?v15) rfl (by kernel_rfl) (by kernel_rfl) (by kernel_rfl) (fun _ _ _ h => h) (Or.inl ⟨by rfl, ?y15⟩) (by assumption) ?_
              case y15 => (intro w hSw; (try dsimp only at hSw); go_simp; first | done | with_reducible rfl)
              (try simp only [Act.put, List.setIfInBounds_toArray, List.set_cons_zero, List.set_cons_succ])
              refine wpAnyH_take (i := 16) (oi := { dst := some 89, op := Op.pick (Operand.tmp 83) (Operand.const (Value.bool true)) (Operand.tmp 88), type := 4, pos := "law.go:53", after := #[{ on := 10, ground := Ground.data }, { on := 15, ground := Ground.data }], guard := none }) (v := ?v16) rfl (by kernel_rfl) (by kernel_rfl) (by kernel_rfl) (fun _ _ _ h => h) (Or.inl ⟨by rfl, ?y16⟩) (by assumption) ?_
              case y16 => (intro w hSw; (try dsimp only at hSw); go_simp; first | done | with_reducible rfl)
              (try simp only [Act.put, List.setIfInBounds_toArray, List.set_cons_zero, List.set_cons_succ])
              refine wpAnyH_take (i := 17) (oi := { dst := some 90, op := Op.move (Operand.tmp 89), type := 4, pos := "law.go:53", after := #[{ on := 16, ground := Ground.data }, { on := 10, ground := Ground.chain }], guard := none }) (v := ?v17) rfl (by kernel_rfl) (by kernel_rfl) (by kernel_rfl) (fun _ _ _ h => h) (Or.inl ⟨by rfl, ?y17⟩) (by assumption) ?_
              case y17 => (intro w hSw; (try dsimp only at hSw); go_simp; first | done | with_reducible rfl)
              (try simp only [Act.put, List.setIfInBounds_toArray, List.set_cons_zero, List.set_cons_succ])
              refine wpAnyH_take (i := 18) (oi := { dst := some 91, op := Op.load 24 (Operand.tmp 3), type := 24, pos := "law.go:53", after := #[{ on := 17, ground := Ground.guard }], guard := some (17, false) }) (v := ?v18) rfl (by kernel_rfl) (by kernel_rfl) (by kernel_rfl) (fun _ _ _ h => h) (Or.inl ⟨by rfl, ?y18⟩) (by assumption) ?_
              case y18 => (intro w hSw; (try dsimp only at hSw); go_simp; first | done | with_reducible rfl)
              (try simp only [Act.put, List.setIfInBounds_toArray, List.set_cons_zero, List.set_cons_succ])
              refine wpAnyH_take (i := 19) (oi := { dst := some 92, op := Op.move (Operand.tmp 9), type := 28, pos := "law.go:53", after := #[{ on := 17, ground := Ground.guard }], guard := some (17, false) }) (v := ?v19) rfl (by kernel_rfl) (by kernel_rfl) (by kernel_rfl) (fun _ _ _ h => h) (Or.inl ⟨by rfl, ?y19⟩) (by assumption) ?_
              case y19 => (intro w hSw; (try dsimp only at hSw); go_simp; first | done | with_reducible rfl)
              (try simp only [Act.put, List.setIfInBounds_toArray, List.set_cons_zero, List.set_cons_succ])
              refine wpAnyH_take (i := 20) (oi := { dst := some 93, op := Op.move (Operand.tmp 11), type := 3, pos := "law.go:53", after := #[{ on := 17, ground := Ground.guard }], guard := some (17, false) }) (v := ?v20) rfl (by kernel_rfl) (by kernel_rfl) (by kernel_rfl) (fun _ _ _ h => h) (Or.inl ⟨by rfl, ?y20⟩) (by assumption) ?_
              case y20 => (intro w hSw; (try dsimp only at hSw); go_simp; first | done | with_reducible rfl)
              (try simp only [Act.put, List.setIfInBounds_toArray, List.set_cons_zero, List.set_cons_succ])
              refine wpAnyH_take (i := 21) (oi := { dst := some 94, op := Op.indexAddr 28 (Operand.tmp 92) (Operand.tmp 93), type := 0, pos := "law.go:53", after := #[{ on := 19, ground := Ground.data }, { on := 20, ground := Ground.data }, { on := 17, ground := Ground.guard }], guard := some (17, false) }) (v := ?v21) rfl (by kernel_rfl) (by kernel_rfl) (by kernel_rfl) (fun _ _ _ h => h) (Or.inl ⟨by rfl, ?y21⟩) (by assumption) ?_
              case y21 => (intro w hSw; (try dsimp only at hSw); go_simp; first | done | with_reducible rfl)
              (try simp only [Act.put, List.setIfInBounds_toArray, List.set_cons_zero, List.set_cons_succ])
              refine wpAnyH_take (i := 22) (oi := { dst := some 95, op := Op.load 22 (Operand.tmp 94), type := 22, pos := "law.go:53", after := #[{ on := 21, ground := Ground.data }, { on := 17, ground := Ground.guard }], guard := some (17, false) }) (v := ?v22) rfl (by kernel_rfl) (by kernel_rfl) (by kernel_rfl) (fun _ _ _ h => h) (Or.inl ⟨by rfl, ?y22⟩) (by assumption) ?_
              case y22 => (intro w hSw; (try dsimp only at hSw); go_simp; first | done | with_reducible rfl)
              (try simp only [Act.put, List.setIfInBounds_toArray, List.set_cons_zero, List.set_cons_succ])
              refine wpAnyH_ready (rs := [23]) (by kernel_rfl) (by simp) ?_
              refine AllReadyH.cons (o := { dst := some 96, op := Op.call { callee := Callee.value (Operand.func 13), args := #[Operand.tmp 91, Operand.tmp 95], argTypes := #[24, 22] }, type := 4, pos := "law.go:53", after := #[{ on := 18, ground := Ground.data }, { on := 22, ground := Ground.data }, { on := 17, ground := Ground.chain }, { on := 17, ground := Ground.guard }], guard := some (17, false) }) rfl (fun K hK => ?_) AllReadyH.nil
              go_simp
              refine (CEx.out _).mono ?_
              rintro e we ⟨rfl, hbe⟩
              refine hK.out _ _ ?_ (fun hHeld => ?_)
              · (try dsimp only); exact keepE hwlb hga hgb (by assumption) hbe
              clear hK K
              (try simp only [Act.put, List.setIfInBounds_toArray, List.set_cons_zero, List.set_cons_succ])
              refine wpAnyH_take (i := 24) (oi := { dst := some 97, op := Op.move (Operand.tmp 96), type := 4, pos := "law.go:53", after := #[{ on := 23, ground := Ground.data }, { on := 23, ground := Ground.chain }, { on := 17, ground := Ground.guard }], guard := some (17, false) }) (v := ?v24) rfl (by kernel_rfl) (by kernel_rfl) (by kernel_rfl) (fun _ _ _ h => h) (Or.inl ⟨by rfl, ?y24⟩) (by assumption) ?_
              case y24 => (intro w hSw; (try dsimp only at hSw); go_simp; first | done | with_reducible rfl)
              (try simp only [Act.put, List.setIfInBounds_toArray, List.set_cons_zero, List.set_cons_succ])
              refine wpAnyH_take (i := 25) (oi := { dst := some 98, op := Op.load 24 (Operand.tmp 3), type := 24, pos := "law.go:53", after := #[{ on := 24, ground := Ground.guard }], guard := some (24, true) }) (v := undef) rfl (by kernel_rfl) (by kernel_rfl) (by kernel_rfl) (fun _ _ _ h => h) (Or.inr ⟨by rfl, rfl⟩) (by assumption) ?_
              (try simp only [Act.put, List.setIfInBounds_toArray, List.set_cons_zero, List.set_cons_succ])
              refine wpAnyH_take (i := 26) (oi := { dst := some 99, op := Op.move (Operand.tmp 10), type := 28, pos := "law.go:53", after := #[{ on := 24, ground := Ground.guard }], guard := some (24, true) }) (v := undef) rfl (by kernel_rfl) (by kernel_rfl) (by kernel_rfl) (fun _ _ _ h => h) (Or.inr ⟨by rfl, rfl⟩) (by assumption) ?_
              (try simp only [Act.put, List.setIfInBounds_toArray, List.set_cons_zero, List.set_cons_succ])
              refine wpAnyH_take (i := 27) (oi := { dst := some 100, op := Op.move (Operand.tmp 11), type := 3, pos := "law.go:53", after := #[{ on := 24, ground := Ground.guard }], guard := some (24, true) }) (v := undef) rfl (by kernel_rfl) (by kernel_rfl) (by kernel_rfl) (fun _ _ _ h => h) (Or.inr ⟨by rfl, rfl⟩) (by assumption) ?_
              (try simp only [Act.put, List.setIfInBounds_toArray, List.set_cons_zero, List.set_cons_succ])
              refine wpAnyH_take (i := 28) (oi := { dst := some 101, op := Op.indexAddr 28 (Operand.tmp 99) (Operand.tmp 100), type := 0, pos := "law.go:53", after := #[{ on := 26, ground := Ground.data }, { on := 27, ground := Ground.data }, { on := 24, ground := Ground.guard }], guard := some (24, true) }) (v := undef) rfl (by kernel_rfl) (by kernel_rfl) (by kernel_rfl) (fun _ _ _ h => h) (Or.inr ⟨by rfl, rfl⟩) (by assumption) ?_
              (try simp only [Act.put, List.setIfInBounds_toArray, List.set_cons_zero, List.set_cons_succ])
              refine wpAnyH_take (i := 29) (oi := { dst := some 102, op := Op.load 22 (Operand.tmp 101), type := 22, pos := "law.go:53", after := #[{ on := 28, ground := Ground.data }, { on := 24, ground := Ground.guard }], guard := some (24, true) }) (v := undef) rfl (by kernel_rfl) (by kernel_rfl) (by kernel_rfl) (fun _ _ _ h => h) (Or.inr ⟨by rfl, rfl⟩) (by assumption) ?_
              (try simp only [Act.put, List.setIfInBounds_toArray, List.set_cons_zero, List.set_cons_succ])
              refine wpAnyH_take (i := 30) (oi := { dst := some 103, op := Op.call { callee := Callee.value (Operand.func 13), args := #[Operand.tmp 98, Operand.tmp 102], argTypes := #[24, 22] }, type := 4, pos := "law.go:53", after := #[{ on := 25, ground := Ground.data }, { on := 29, ground := Ground.data }, { on := 24, ground := Ground.chain }, { on := 24, ground := Ground.guard }], guard := some (24, true) }) (v := undef) rfl (by kernel_rfl) (by kernel_rfl) (by kernel_rfl) (fun _ _ _ h => h) (Or.inr ⟨by rfl, rfl⟩) (by assumption) ?_
              (try simp only [Act.put, List.setIfInBounds_toArray, List.set_cons_zero, List.set_cons_succ])
              refine wpAnyH_take (i := 31) (oi := { dst := some 104, op := Op.unOp UnOp.not 4 (Operand.tmp 103), type := 4, pos := "law.go:53", after := #[{ on := 30, ground := Ground.data }, { on := 24, ground := Ground.guard }], guard := some (24, true) }) (v := undef) rfl (by kernel_rfl) (by kernel_rfl) (by kernel_rfl) (fun _ _ _ h => h) (Or.inr ⟨by rfl, rfl⟩) (by assumption) ?_
              (try simp only [Act.put, List.setIfInBounds_toArray, List.set_cons_zero, List.set_cons_succ])
              refine wpAnyH_take (i := 32) (oi := { dst := some 105, op := Op.pick (Operand.tmp 97) (Operand.tmp 104) (Operand.const (Value.bool false)), type := 4, pos := "law.go:53", after := #[{ on := 24, ground := Ground.data }, { on := 31, ground := Ground.data }, { on := 17, ground := Ground.guard }], guard := some (17, false) }) (v := ?v32) rfl (by kernel_rfl) (by kernel_rfl) (by kernel_rfl) (fun _ _ _ h => h) (Or.inl ⟨by rfl, ?y32⟩) (by assumption) ?_
              case y32 => (intro w hSw; (try dsimp only at hSw); go_simp; first | done | with_reducible rfl)
              (try simp only [Act.put, List.setIfInBounds_toArray, List.set_cons_zero, List.set_cons_succ])
              refine wpAnyH_take (i := 33) (oi := { dst := some 106, op := Op.pick (Operand.tmp 90) (Operand.const (Value.bool true)) (Operand.tmp 105), type := 4, pos := "law.go:53", after := #[{ on := 17, ground := Ground.data }, { on := 32, ground := Ground.data }], guard := none }) (v := ?v33) rfl (by kernel_rfl) (by kernel_rfl) (by kernel_rfl) (fun _ _ _ h => h) (Or.inl ⟨by rfl, ?y33⟩) (by assumption) ?_
              case y33 => (intro w hSw; (try dsimp only at hSw); go_simp; first | done | with_reducible rfl)
              (try simp only [Act.put, List.setIfInBounds_toArray, List.set_cons_zero, List.set_cons_succ])
              refine wpAnyH_done (by kernel_rfl) ?_ _
              have HS2 : we.cell? ⟨w.heap.size, 0, none⟩ = some (.float .f64 k) ∧ we.cell? ⟨w.heap.size, 1, none⟩ = some (.float .f64 g) ∧ we.cell? ⟨w.heap.size, 2, none⟩ = some (.float .f64 l) ∧ we.cell? ⟨ga, j, none⟩ = some (.float .f64 x) ∧ we.cell? ⟨gb, j, none⟩ = some (.float .f64 y) ∧ Below wb.heap.size wb we := by assumption
              go_wp2
              go_roundw
              case rel => exact ⟨j + 1, by omega, by go_num, HS2.2.2.2.2.2⟩
              case measure => simp [intOf]; omega
            · obtain rfl := hq3 rfl
              clear hq3
              go_upto_region 17 with fail
              go_region_held3 (fun w' => w'.cell? ⟨w.heap.size, 0, none⟩ = some (.float .f64 k) ∧ w'.cell? ⟨w.heap.size, 1, none⟩ = some (.float .f64 g) ∧ w'.cell? ⟨w.heap.size, 2, none⟩ = some (.float .f64 l) ∧ w'.cell? ⟨ga, j, none⟩ = some (.float .f64 x) ∧ w'.cell? ⟨gb, j, none⟩ = some (.float .f64 y) ∧ Below wb.heap.size wb w')
                (first | (refine ⟨?_, ?_, ?_, ?_, ?_, ?_⟩ <;> first | exact hx.drew | go_keep) | exact keepE hwlb hga hgb (by assumption) hbe)
                ((first | (go_at_call 13; first | ((with_reducible refine (CEx.out _).mono ?_); rintro e we ⟨rfl, hbe⟩) | ((with_reducible refine (CEy.out _).mono ?_); rintro e wf ⟨rfl, hbe⟩))))
              have HS2 : wf.cell? ⟨w.heap.size, 0, none⟩ = some (.float .f64 k) ∧ wf.cell? ⟨w.heap.size, 1, none⟩ = some (.float .f64 g) ∧ wf.cell? ⟨w.heap.size, 2, none⟩ = some (.float .f64 l) ∧ wf.cell? ⟨ga, j, none⟩ = some (.float .f64 x) ∧ wf.cell? ⟨gb, j, none⟩ = some (.float .f64 y) ∧ Below wb.heap.size wb wf := by assumption
              go_wp2
              go_roundw
              case rel => exact ⟨j + 1, by omega, by go_num, HS2.2.2.2.2.2⟩
              case measure => simp [intOf]; omega
          · clear Hbits Hoa Hob CE
            go_wp2
            go_ret
            exact ⟨rfl, HBw.trans (hx.mono HBw.size)⟩

/-- The law, whatever came in. -/
theorem rises_any {w : World} (k g l : Nat) (A : Option Addr) (n cap : Nat) (bs : List Bool) (hv : Bools w A n bs) (hm : n ≤ maxLen) (hA : A = none → cap = 0) (A2 : Option Addr) (n2 cap2 : Nat) (ys : List Bool) (hy : Bools w A2 n2 ys) (hm2 : n2 ≤ maxLen) (_ : A2 = none → cap2 = 0) :
    Calls Try.prog 3 #[pv k g l, .slice A n cap, .slice A2 n2 cap2] w fun e w' => e = .returned (.bool true) ∧ Below w.heap.size w w' := by
  by_cases hn : 100 < n
  · exact rises_many k g l A A2 n n2 cap cap2 w hn hm hm2
  · by_cases he : n2 = n
    · subst he
      cases hp : plainB (ab k) (ab g) (ab l) with
      | false => exact rises_dull k g l A A2 n2 cap cap2 w (by omega) hp
      | true => exact rises_main k g l A A2 n2 cap cap2 bs ys w (by omega) hv hy hp hA
    · exact rises_other k g l A A2 n n2 cap cap2 w (by omega) hm2 he
end Go.Proofs.Ytkakhjaaakophaa
