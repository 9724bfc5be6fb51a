/- What Less, Same, SameFloats, Scores and chapter 2's example compute: contracts. -/
import Derived.Test.YtkakhjaaakophaaRuns
namespace Go.Proofs.Ytkakhjaaakophaa
open Go.RowKit Fl

theorem order_self {x : Nat} (h : nanB x = false) : Ieee.double.order x x = some .eq := by
  unfold nanB at h
  unfold Ieee.Format.order
  cases hr : Ieee.double.read x with
  | number s m i => simp only [Ieee.Datum.order, cmp_eq]
  | infinity s => simp only [Ieee.Datum.order, ncmp_eq]
  | nan s t => rw [hr] at h; cases h
theorem order_nan {x : Nat} (y : Nat) (h : nanB x = true) : Ieee.double.order x y = none := by rw [order_ab, ab_none h]; rfl

theorem div_run (x y : Nat) : (∃ z, Ieee.double.div x y = some z ∧ ∀ (P : Program) (t : TypeId) w, (binOp .quo t (.float .f64 x) (.float .f64 y)).run P w = .ok (.float .f64 z) w) ∨
    (∀ w : World, ∃ z, nanB z = true ∧ ∀ (P : Program) (t : TypeId), (binOp .quo t (.float .f64 x) (.float .f64 y)).run P w = .ok (.float .f64 z) w.drew) := by
  cases h : Ieee.double.div x y with
  | some z => exact .inl ⟨z, rfl, fun P t w => run_float_arith w .quo t .f64 x y z h⟩
  | none =>
    refine .inr fun w => ⟨Question.cut (.nanBits .f64 x y) (w.tape w.drawn (.nanBits .f64 x y)), nan_drawn _ _ _, fun P t => ?_⟩
    have h' : FloatKind.f64.format.div x y = none := h
    simp [binOp, Op.floatArith, h', choose, Sem.run, Question.forced]

set_option maxHeartbeats 800000 in
theorem less_nan (x y : Nat) (hx : nanB x = true) (hy : nanB y = true) (w : World) : Calls Try.prog 36 #[.float .f64 x, .float .f64 y] w fun e w' => e = .returned (.bool false) ∧ Below w.heap.size w w' := by
  have h1 : FloatKind.f64.format.order x x = none := order_nan x hx
  have h2 : FloatKind.f64.format.order y y = none := order_nan y hy
  clear hx hy
  go_enter Try.func36, Try.ntmps36
  go_wp2
  go_ret
  exact ⟨rfl, Below.refl _ _⟩

set_option maxHeartbeats 1600000 in
theorem less_self (x : Nat) (hx : nanB x = false) (w : World) : Calls Try.prog 36 #[.float .f64 x, .float .f64 x] w fun e w' => e = .returned (.bool false) ∧ Below w.heap.size w w' := by
  have h1 : FloatKind.f64.format.order x x = some .eq := order_self hx
  clear hx
  cases h2 : (FloatKind.f64.format.order x 0 == some .eq)
  · go_enter Try.func36, Try.ntmps36
    go_wp2
    go_ret
    exact ⟨rfl, Below.refl _ _⟩
  · rcases div_run 4607182418800017408 x with ⟨z, _, hr⟩ | h
    · have hr1 := hr Try.prog
      clear hr
      cases h3 : (FloatKind.f64.format.order z 0 == some .lt)
      · go_enter Try.func36, Try.ntmps36
        go_wp2
        go_ret
        exact ⟨rfl, Below.refl _ _⟩
      · have h4 : FloatKind.f64.format.order z 0 = some .lt := by simpa using h3
        clear h3
        go_enter Try.func36, Try.ntmps36
        go_wp2
        go_ret
        exact ⟨rfl, Below.refl _ _⟩
    · obtain ⟨z, hz, hr⟩ := h w
      clear h
      have h3 : FloatKind.f64.format.order z 0 = none := order_nan 0 hz
      have hr1 := hr Try.prog
      clear hr hz
      go_enter Try.func36, Try.ntmps36
      go_wp2
      go_ret
      exact ⟨rfl, (Below.refl _ _).drew⟩

theorem less_same (x y : Nat) (h : ab x = ab y) (w : World) : Calls Try.prog 36 #[.float .f64 x, .float .f64 y] w fun e w' => e = .returned (.bool false) ∧ Below w.heap.size w w' := by
  by_cases hx : nanB x = true
  · exact less_nan x y hx (ab_eq_none (h ▸ ab_none hx)) w
  · have hx : nanB x = false := by simpa using hx
    obtain ⟨_, e⟩ := ab_eq_some (h ▸ ab_some hx : ab y = some x)
    subst e
    exact less_self _ hx w

set_option maxHeartbeats 400000 in
theorem same_any (x y : Nat) (h : ab x = ab y) (w : World) : Calls Try.prog 25 #[.float .f64 x, .float .f64 y] w fun e w' => e = .returned (.bool true) ∧ Below w.heap.size w w' := by
  have C1 := Lib.hid (less_same x y h)
  have C2 := Lib.hid (less_same y x h.symm)
  clear h
  go_enter Try.func25, Try.ntmps25
  go_wp2_with fail
  refine (C1.out _).mono ?_
  rintro e w1 ⟨rfl, hb1⟩
  go_wp2_with fail
  refine (C2.out _).mono ?_
  rintro e w2 ⟨rfl, hb2⟩
  go_wp2
  go_ret
  exact ⟨rfl, hb1.trans (hb2.mono hb1.size)⟩

set_option maxHeartbeats 400000 in
theorem samefloats_nil (A B : Option Addr) (c d : Nat) (w : World) : Calls Try.prog 28 #[.slice A 0 c, .slice B 0 d] w fun e w' => e = .returned (.bool true) ∧ Below w.heap.size w w' := by
  go_enter Try.func28, Try.ntmps28
  go_wp2
  refine wp_loop_rounds 1 ?_
  rw [rounds_succ]
  go_wp2
  go_ret
  exact ⟨rfl, Below.refl _ _⟩

set_option maxHeartbeats 1600000 in
theorem samefloats_core (b off cap c o2 d n : Nat) (X Y : Nat → Nat) (w : World) (hn : n ≤ 1000000) (he : ∀ i, i < n → ab (X i) = ab (Y i)) (hbl : b < w.heap.size) (hcl : c < w.heap.size)
    (h1 : ∀ i, i < n → w.cell? ⟨b, off + i, none⟩ = some (.float .f64 (X i))) (h2 : ∀ i, i < n → w.cell? ⟨c, o2 + i, none⟩ = some (.float .f64 (Y i))) :
    Calls Try.prog 28 #[.slice (some ⟨b, off, none⟩) n cap, .slice (some ⟨c, o2, none⟩) n d] w fun e w' => e = .returned (.bool true) ∧ Below w.heap.size w w' := by
  go_enter Try.func28, Try.ntmps28
  go_wp2
  go_loopw [13] (fun i wr => ∃ j : Nat, j ≤ n ∧ i = .int .i64 j ∧ Below w.heap.size w wr) (fun i _ => n - (intOf i).toNat)
  case atStart => exact ⟨0, Nat.zero_le _, rfl, Below.refl _ _⟩
  case round =>
    obtain ⟨j, hj, rfl, hB⟩ := hrel
    by_cases hlt : j < n
    · have k1 : wr.cell? ⟨b, off + j, none⟩ = some (.float .f64 (X j)) := by rw [hB.cell hbl]; exact h1 j hlt
      have k2 : wr.cell? ⟨c, o2 + j, none⟩ = some (.float .f64 (Y j)) := by rw [hB.cell hcl]; exact h2 j hlt
      have CS := Lib.hid (same_any (X j) (Y j) (he j hlt))
      generalize X j = x at *
      generalize Y j = y at *
      have hlb : b < wr.heap.size := Nat.lt_of_lt_of_le hbl hB.size
      have hlc : c < wr.heap.size := Nat.lt_of_lt_of_le hcl hB.size
      clear h1 h2 he
      have hj0 : (0 : Int) ≤ (j : Int) := by omega
      have hj1 : (j : Int) < (n : Int) := by omega
      go_upto_region 6 with fail
      go_region_held3 (fun w' => w'.cell? ⟨b, off + j, none⟩ = some (.float .f64 x) ∧ w'.cell? ⟨c, o2 + j, none⟩ = some (.float .f64 y))
        (first | go_keep | exact ⟨(hb2.cell hlb).trans k1, (hb2.cell hlc).trans k2⟩)
        ((go_at_call 25; refine (CS.out _).mono ?_; rintro e w2 ⟨rfl, hb2⟩))
      have hB2 : Below w.heap.size w w2 := hB.drew.trans (hb2.mono hB.size)
      go_wp2
      go_roundw
      case rel => exact ⟨j + 1, by omega, by go_num, hB2⟩
      case measure => simp [intOf]; omega
    · go_wp2
      go_ret
      exact ⟨rfl, hB⟩

theorem samefloats_any (b off cap c o2 d n : Nat) (xs ys : List Nat) (w : World) (hxs : xs.length = n) (hys : ys.length = n) (hn : n ≤ 1000000) (h : xs.map ab = ys.map ab) (hbl : b < w.heap.size) (hcl : c < w.heap.size)
    (h1 : ∀ i, (h : i < xs.length) → w.cell? ⟨b, off + i, none⟩ = some (.float .f64 xs[i])) (h2 : ∀ i, (h : i < ys.length) → w.cell? ⟨c, o2 + i, none⟩ = some (.float .f64 ys[i])) :
    Calls Try.prog 28 #[.slice (some ⟨b, off, none⟩) n cap, .slice (some ⟨c, o2, none⟩) n d] w fun e w' => e = .returned (.bool true) ∧ Below w.heap.size w w' := by
  refine samefloats_core b off cap c o2 d n (fun i => xs[i]?.getD 0) (fun i => ys[i]?.getD 0) w hn (fun i hi => ?_) hbl hcl (fun i hi => ?_) (fun i hi => ?_)
  · have := congrArg (fun l => l[i]?) h
    simpa [List.getElem?_map, List.getElem?_eq_getElem, hxs, hys, hi] using this
  · have h' : i < xs.length := by omega
    simpa [List.getElem?_eq_getElem, h'] using h1 i h'
  · have h' : i < ys.length := by omega
    simpa [List.getElem?_eq_getElem, h'] using h2 i h'

theorem reads_cells {w : World} {base : Nat} {n : Nat} {rs : List Nat} {g cap : Nat} (h : w.ownsRow base 22 1 (.slice (some ⟨g, 0, none⟩) n cap) n (rs.map (Value.float .f64))) : rs.length = n ∧ g < w.heap.size ∧ base ≤ g ∧ ∀ i, (h : i < rs.length) → w.cell? ⟨g, 0 + i, none⟩ = some (.float .f64 rs[i]) := by
  have hl := h.1
  simp at hl
  have hlt := h.lt g rfl
  refine ⟨hl, hlt.2, hlt.1, fun i hi => ?_⟩
  have := h.cells (g := g) rfl i (.float .f64 rs[i]) (by simp [hi])
  rw [← this]
  unfold Addr.add
  split
  · subst i; rfl
  · rfl

/-- Two rows of one make, told alike, are the same. -/
theorem samefloats_rows {w : World} {base base2 : Nat} {as_ : List (Option Nat)} {u v : Value} {rs ts : List Nat} (hl : as_.length ≤ 1000000) (h1 : w.ownsRow base 22 1 u as_.length (rs.map (Value.float .f64))) (e1 : rs.map ab = as_)
    (h2 : w.ownsRow base2 22 1 v as_.length (ts.map (Value.float .f64))) (e2 : ts.map ab = as_) : Calls Try.prog 28 #[u, v] w fun e w' => e = .returned (.bool true) ∧ Below w.heap.size w w' := by
  generalize hn : as_.length = n at *
  by_cases h0 : n = 0
  · subst h0
    have hu : ∃ A c, u = .slice A 0 c := by rcases h1.2 with ⟨rfl, _⟩ | ⟨g, cap, cur, rfl, _⟩ <;> exact ⟨_, _, rfl⟩
    have hv : ∃ A c, v = .slice A 0 c := by rcases h2.2 with ⟨rfl, _⟩ | ⟨g, cap, cur, rfl, _⟩ <;> exact ⟨_, _, rfl⟩
    obtain ⟨A, c, rfl⟩ := hu
    obtain ⟨B, d, rfl⟩ := hv
    exact samefloats_nil A B c d w
  · rcases h1.2 with ⟨_, h⟩ | ⟨g, cap, cur, rfl, _⟩
    · exact absurd h h0
    rcases h2.2 with ⟨_, h⟩ | ⟨g2, cap2, cur2, rfl, _⟩
    · exact absurd h h0
    obtain ⟨l1, b1, _, c1⟩ := reads_cells h1
    obtain ⟨l2, b2, _, c2⟩ := reads_cells h2
    exact samefloats_any g 0 cap g2 0 cap2 n rs ts w l1 l2 hl (e1.trans e2.symm) b1 b2 c1 c2

/-- The world, or the world behind a draw. -/
structure Quiet (w w1 : World) : Prop where
  heap : w1.heap = w.heap
  os : w1.os = w.os
  tape : w1.tape = w.tape
  output : w1.output = w.output
theorem Quiet.below {w w1 : World} (h : Quiet w w1) (B : Nat) : Below B w w1 := ⟨h.os, h.tape, h.output, by rw [h.heap]; exact Nat.le_refl _, fun k _ => by rw [h.heap]⟩
theorem Quiet.owns {w w1 : World} (h : Quiet w w1) {base : Nat} {e : TypeId} {size : Nat} {v : Value} {n : Nat} {xs : List Value} (ho : w.ownsRow base e size v n xs) : w1.ownsRow base e size v n xs := by
  unfold World.ownsRow at *; rw [h.heap]; exact ho
theorem Quiet.cell {w w1 : World} (h : Quiet w w1) (a : Addr) : w1.cell? a = w.cell? a := by unfold World.cell?; rw [h.heap]
theorem mul_at (P : Program) (x y : Nat) (w : World) : ∃ z w1, ab z = amul (ab x) (ab y) ∧ (∀ t : TypeId, (binOp .mul t (.float .f64 x) (.float .f64 y)).run P w = .ok (.float .f64 z) w1) ∧ Quiet w w1 := by
  rcases mul_run x y with ⟨z, hz, hr⟩ | h
  · exact ⟨z, w, hz, fun t => hr P t w, rfl, rfl, rfl, rfl⟩
  · obtain ⟨z, hz, hr⟩ := h w
    exact ⟨z, w.drew, hz, fun t => hr P t, rfl, rfl, rfl, rfl⟩
theorem add_at (P : Program) (x y : Nat) (w : World) : ∃ z w1, ab z = aadd (ab x) (ab y) ∧ (∀ t : TypeId, (binOp .add t (.float .f64 x) (.float .f64 y)).run P w = .ok (.float .f64 z) w1) ∧ Quiet w w1 := by
  rcases add_run x y with ⟨z, hz, hr⟩ | h
  · exact ⟨z, w, hz, fun t => hr P t w, rfl, rfl, rfl, rfl⟩
  · obtain ⟨z, hz, hr⟩ := h w
    exact ⟨z, w.drew, hz, fun t => hr P t, rfl, rfl, rfl, rfl⟩

set_option maxHeartbeats 1600000 in
theorem scores_any (k g l : Nat) (b off cap : Nat) (bs : List Bool) (w : World) (hc : ∀ i, (h : i < bs.length) → w.cell? ⟨b, off + i, none⟩ = some (.bool bs[i])) (hbl : bs ≠ [] → b < w.heap.size) (hm : bs.length ≤ 1000000) :
    Calls Try.prog 26 #[pv k g l, .slice (some ⟨b, off, none⟩) bs.length cap] w (RunIs (arun (ab k) (ab g) (ab 0) bs) w) := by
  obtain ⟨i0, hi, hz0, hz1, hz2⟩ := info_parts Try.info22
  unfold pv
  go_enter Try.func26, Try.ntmps26
  go_wp2
  go_loopw [5, 6, 11] (fun v f i wr => ∃ (j s : Nat) (rs : List Nat), j ≤ bs.length ∧ i = .int .i64 j ∧ f = .float .f64 s ∧ ab s = ascore (ab k) (ab g) (ab 0) (bs.take j) ∧ wr.heap[w.heap.size]? = some (.cells #[.float .f64 k, .float .f64 g, .float .f64 l] 24 (0, 0)) ∧ Below w.heap.size w wr ∧ wr.ownsRow (w.heap.size + 1) 22 1 v j (rs.map (Value.float .f64)) ∧ rs.map ab = arun (ab k) (ab g) (ab 0) (bs.take j) ∧ w.heap.size + 1 ≤ wr.heap.size) (fun _ _ i _ => bs.length - (intOf i).toNat)
  case atStart => exact ⟨0, 0, [], Nat.zero_le _, rfl, rfl, rfl, heap_alloc_new w _, (Below.refl _ _).alloc (Nat.le_refl _) _, World.ownsRow_nil _ _ _ _, rfl, by simp⟩
  case round =>
    obtain ⟨j, s, rs, hj, rfl, rfl, hs, hp, hbw, hown, hrs, hsz⟩ := hrel
    have c0 : wr.cell? ⟨w.heap.size, 0, none⟩ = some (.float .f64 k) := by simp [World.cell?, hp]
    have c1 : wr.cell? ⟨w.heap.size, 1, none⟩ = some (.float .f64 g) := by simp [World.cell?, hp]
    have hs1 := Lib.hid hs
    have hp1 := Lib.hid hp
    have hrs1 := Lib.hid hrs
    clear hs hp hrs
    by_cases hlt : j < bs.length
    · have hcj : wr.cell? ⟨b, off + j, none⟩ = some (.bool bs[j]) := (hbw.cell (hbl (by rintro rfl; simp at hlt))).trans (hc j hlt)
      have hts := Lib.hid (take_snoc' bs j hlt)
      generalize bs[j] = bj at *
      clear hc
      obtain ⟨z, wz, hz, hmul, hq⟩ := mul_at Try.prog k s wr
      have hzz := Lib.hid hz
      clear hz
      cases bj
      · have hown1 := hq.owns hown
        have hbz : Below w.heap.size w wz := hbw.trans (hq.below _)
        have hsz1 : w.heap.size + 1 ≤ wz.heap.size := by rw [hq.heap]; exact hsz
        have hp2 := Lib.hid ((congrArg (fun h => h[w.heap.size]?) hq.heap).trans hp1.out)
        clear hown hbw hsz hp1
        go_wp2_with (at_builtin; refine wpList_append_own _ rfl _ _ 28 rfl (w.heap.size + 1) 22 i0 (.float .f64 0) 1 8 Try.underlying28 hi hz0 hz1 hz2 rfl (by decide) _ _ _ rfl (hown1.alloc _) ⟨wz.heap.size, 0, none⟩ 1 1 [.float .f64 z] rfl rfl ?c1 ?c2 ?c3 ?c4 ?c5 ?_)
        case c1 => exact cell_one_new _ _ _
        case c2 => intro u hu; simp at hu; subst hu; rfl
        case c3 => unfold maxLen; omega
        case c4 => omega
        case c5 => simp; omega
        intro v' w2 hown2 hgrow2 _
        have hb2 : Below w.heap.size w w2 := (hbz.alloc hbz.size _).grown hgrow2 (by simp; omega) (fun i hi => by have := (hown1.lt i hi).1; omega)
        have hp3 : w2.heap[w.heap.size]? = some (.cells #[.float .f64 k, .float .f64 g, .float .f64 l] 24 (0, 0)) := by
          rw [hgrow2.block _ (by simp; omega) (ne_of_apart (own_apart hown1 (by omega))), Below.heap_alloc _ _ _ (by omega)]; exact hp2.out
        have hsz2 : w.heap.size + 1 ≤ w2.heap.size := by have h2 := hgrow2.size; simp at h2; omega
        rw [show List.map (Value.float .f64) rs ++ [Value.float .f64 z] = List.map (Value.float .f64) (rs ++ [z]) by simp] at hown2
        have hrs2 : (rs ++ [z]).map ab = arun (ab k) (ab g) (ab 0) (bs.take (j + 1)) := by rw [hts.out, arun_snoc, List.map_append, hrs1.out, ← hs1.out]; simp [anext, hzz.out]
        have hs2 : ab z = ascore (ab k) (ab g) (ab 0) (bs.take (j + 1)) := by rw [hts.out, ascore_snoc, ← hs1.out]; simp [anext, hzz.out]
        have hrs3 := Lib.hid hrs2
        have hs3 := Lib.hid hs2
        have hp4 := Lib.hid hp3
        clear hrs2 hs2 hp3 hown1 hbz hsz1
        go_wp2
        go_roundw
        case rel => exact ⟨j + 1, z, rs ++ [z], by omega, by go_num, rfl, hs3.out, hp4.out, hb2, hown2, hrs3.out, hsz2⟩
        case measure => simp [intOf]; omega
      · have c1z : wz.cell? ⟨w.heap.size, 1, none⟩ = some (.float .f64 g) := (hq.cell _).trans c1
        obtain ⟨y, wy, hy, hadd, hq2⟩ := add_at Try.prog z g wz
        have hyy := Lib.hid hy
        clear hy
        have hown1 := hq2.owns (hq.owns hown)
        have hbz : Below w.heap.size w wy := (hbw.trans (hq.below _)).trans (hq2.below _)
        have hsz1 : w.heap.size + 1 ≤ wy.heap.size := by rw [hq2.heap, hq.heap]; exact hsz
        have hp2 := Lib.hid ((congrArg (fun h => h[w.heap.size]?) (hq2.heap.trans hq.heap)).trans hp1.out)
        clear hown hbw hsz hp1
        go_wp2_with (at_builtin; refine wpList_append_own _ rfl _ _ 28 rfl (w.heap.size + 1) 22 i0 (.float .f64 0) 1 8 Try.underlying28 hi hz0 hz1 hz2 rfl (by decide) _ _ _ rfl (hown1.alloc _) ⟨wy.heap.size, 0, none⟩ 1 1 [.float .f64 y] rfl rfl ?c1 ?c2 ?c3 ?c4 ?c5 ?_)
        case c1 => exact cell_one_new _ _ _
        case c2 => intro u hu; simp at hu; subst hu; rfl
        case c3 => unfold maxLen; omega
        case c4 => omega
        case c5 => simp; omega
        intro v' w2 hown2 hgrow2 _
        have hb2 : Below w.heap.size w w2 := (hbz.alloc hbz.size _).grown hgrow2 (by simp; omega) (fun i hi => by have := (hown1.lt i hi).1; omega)
        have hp3 : w2.heap[w.heap.size]? = some (.cells #[.float .f64 k, .float .f64 g, .float .f64 l] 24 (0, 0)) := by
          rw [hgrow2.block _ (by simp; omega) (ne_of_apart (own_apart hown1 (by omega))), Below.heap_alloc _ _ _ (by omega)]; exact hp2.out
        have hsz2 : w.heap.size + 1 ≤ w2.heap.size := by have h2 := hgrow2.size; simp at h2; omega
        rw [show List.map (Value.float .f64) rs ++ [Value.float .f64 y] = List.map (Value.float .f64) (rs ++ [y]) by simp] at hown2
        have hrs2 : (rs ++ [y]).map ab = arun (ab k) (ab g) (ab 0) (bs.take (j + 1)) := by rw [hts.out, arun_snoc, List.map_append, hrs1.out, ← hs1.out]; simp [anext, hyy.out, hzz.out]
        have hs2 : ab y = ascore (ab k) (ab g) (ab 0) (bs.take (j + 1)) := by rw [hts.out, ascore_snoc, ← hs1.out]; simp [anext, hyy.out, hzz.out]
        have hrs3 := Lib.hid hrs2
        have hs3 := Lib.hid hs2
        have hp4 := Lib.hid hp3
        clear hrs2 hs2 hp3 hown1 hbz hsz1
        go_wp2
        go_roundw
        case rel => exact ⟨j + 1, y, rs ++ [y], by omega, by go_num, rfl, hs3.out, hp4.out, hb2, hown2, hrs3.out, hsz2⟩
        case measure => simp [intOf]; omega
    · clear hc
      go_wp2
      go_ret
      have e : bs.take j = bs := List.take_of_length_le (by omega)
      have hl : j = (arun (ab k) (ab g) (ab 0) bs).length := by rw [arun_length]; omega
      rw [e] at hrs1
      refine ⟨_, rs, rfl, ?_, hrs1.out, hbw⟩
      rw [← hl]
      exact ownsRow_mono hown (by omega)
end Go.Proofs.Ytkakhjaaakophaa
