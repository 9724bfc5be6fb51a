/- A slice of numbers that one law keeps: appended to, and cut. -/
import Derived.Test.YtcleabnbdfhmnaaMost
import Derived.Test.YtcleabnbdfhmnaaAlike
namespace Go.Proofs.Ytcleabnbdfhmnaa
open Go.RowKit Go.Maps Go.Sort Go.Shelf

/-- A slice of numbers: what it reads as, and that an append of it writes to a row of the call's own or to none. -/
structure IdS (w : World) (base : Nat) (X : Option Addr) (n c : Nat) (xs : List Int) : Prop where
  rd : Ints w X n xs
  cap : n ≤ c
  own : w.ownsRow base 3 1 (.slice X n c) n (xs.map (.int .i64)) ∨ n = c ∧ ∃ b off, X = some ⟨b, off, none⟩ ∧ base ≤ b ∧ b < w.heap.size

theorem IdS.nil (w : World) (base : Nat) : IdS w base none 0 0 [] := ⟨⟨rfl, .inl rfl⟩, Nat.le_refl _, .inl (World.ownsRow_nil _ _ _ _)⟩
theorem IdS.of_row {w : World} {base n c : Nat} {X : Option Addr} {xs : List Int} (h : w.ownsRow base 3 1 (.slice X n c) n (xs.map (.int .i64))) : IdS w base X n c xs := by
  have hl := h.1
  rw [List.length_map, Nat.mul_one] at hl
  refine ⟨ints_of_nums hl h, ?_, .inl h⟩
  rcases h.2 with ⟨e, h0⟩ | ⟨g, cap, cur, e, _, _, hc, _⟩
  · cases e; omega
  · cases e; exact hc
theorem IdS.kept {w w' : World} {base n c : Nat} {X : Option Addr} {xs : List Int} {row : Option Nat} (h : IdS w base X n c xs) (hg : w.grownBy w' row) (hX : ∀ a, X = some a → some a.block ≠ row) : IdS w' base X n c xs := by
  refine ⟨⟨h.rd.1, h.rd.2.imp id ?_⟩, h.cap, h.own.imp (fun ho => ?_) ?_⟩
  · rintro ⟨b, off, rfl, hl, hc⟩
    exact ⟨b, off, rfl, Nat.lt_of_lt_of_le hl hg.size, fun i hi => hg.cell (hc i hi) (by have := hX _ rfl; exact this)⟩
  · rcases ho.2 with ⟨e, h0⟩ | ⟨g, kap, cur, e, h1, h2, h3⟩
    · cases e; exact ⟨ho.1, .inl ⟨rfl, h0⟩⟩
    · cases e
      refine ⟨ho.1, .inr ⟨g, _, cur, rfl, h1, ?_, h3⟩⟩
      rw [hg.block g (Array.getElem?_eq_some_iff.1 h2).1 (hX _ rfl)]; exact h2
  · rintro ⟨e, b, off, rfl, h1, h2⟩
    exact ⟨e, b, off, rfl, h1, Nat.lt_of_lt_of_le h2 hg.size⟩
theorem IdS.below {w w' : World} {base n c : Nat} {X : Option Addr} {xs : List Int} (h : IdS w base X n c xs) (hb : Below w.heap.size w w') : IdS w' base X n c xs := h.kept (row := none) (Below.grownBy hb) (fun _ _ => by simp)
theorem IdS.kept2 {w w' : World} {base n c t b : Nat} {X : Option Addr} {xs : List Int} (h : IdS w base X n c xs) (hk : Kept2 w w' t b) (ht : ∀ a, X = some a → a.block ≠ t) (hb : ∀ a, X = some a → a.block ≠ b) : IdS w' base X n c xs := by
  refine ⟨⟨h.rd.1, h.rd.2.imp id ?_⟩, h.cap, h.own.imp (fun ho => ?_) ?_⟩
  · rintro ⟨g, off, rfl, hl, hc⟩
    refine ⟨g, off, rfl, Nat.lt_of_lt_of_le hl hk.size, fun i hi => ?_⟩
    have hbk := hk.block g hl (ht _ rfl) (hb _ rfl)
    have := hc i hi
    simp only [World.cell?, hbk] at this ⊢
    exact this
  · rcases ho.2 with ⟨e, h0⟩ | ⟨g, kap, cur, e, h1, h2, h3⟩
    · cases e; exact ⟨ho.1, .inl ⟨rfl, h0⟩⟩
    · cases e
      refine ⟨ho.1, .inr ⟨g, _, cur, rfl, h1, ?_, h3⟩⟩
      rw [hk.block g (Array.getElem?_eq_some_iff.1 h2).1 (ht _ rfl) (hb _ rfl)]; exact h2
  · rintro ⟨e, g, off, rfl, h1, h2⟩
    exact ⟨e, g, off, rfl, h1, Nat.lt_of_lt_of_le h2 hk.size⟩

/-- The first k, of no room. -/
theorem IdS.take {w : World} {base n c b off : Nat} {xs : List Int} (h : IdS w base (some ⟨b, off, none⟩) n c xs) (hbase : base ≤ b) (hbl : b < w.heap.size) {k : Nat} (hk : k ≤ n) : IdS w base (some ⟨b, off, none⟩) k k (xs.take k) := by
  have hl := h.rd.1
  refine ⟨⟨by rw [List.length_take]; omega, ?_⟩, Nat.le_refl _, .inr ⟨rfl, b, off, rfl, hbase, hbl⟩⟩
  rcases h.rd.2 with h2 | ⟨b2, off2, e, hb, hc⟩
  · left; rw [h2]; simp
  · cases e
    right
    refine ⟨b, off, rfl, hb, fun i hi => ?_⟩
    rw [List.length_take] at hi
    rw [List.getElem_take]
    exact hc i (by omega)
/-- .. from k on. -/
theorem Ints.drop {w : World} {b off n : Nat} {xs : List Int} (h : Ints w (some ⟨b, off, none⟩) n xs) {k : Nat} (hk : k ≤ n) : Ints w (some ⟨b, off + k, none⟩) (n - k) (xs.drop k) := by
  have hl := h.1
  refine ⟨by rw [List.length_drop]; omega, ?_⟩
  rcases h.2 with h2 | ⟨b2, off2, e, hb, hc⟩
  · left; rw [h2]; simp
  · cases e
    right
    refine ⟨b, off + k, rfl, hb, fun i hi => ?_⟩
    rw [List.length_drop] at hi
    rw [List.getElem_drop]
    have := hc (k + i) (by omega)
    rw [show off + k + i = off + (k + i) by omega]
    exact this

theorem Try.info3' : (Try.prog.info? 3).map (fun i => (i.zero, i.size, i.bytes)) = some (some (.int .i64 0), 1, 8) := by kernel_rfl

theorem ints_cells {w : World} {b off n : Nat} {xs : List Int} (h : Ints w (some ⟨b, off, none⟩) n xs) : ∀ j u, (xs.map (Value.int .i64))[j]? = some u → w.cell? ((⟨b, off, none⟩ : Addr).add j) = some u := by
  intro j u hu
  have hj := (List.getElem?_eq_some_iff.1 hu).1
  rw [List.length_map] at hj
  rcases h.2 with h2 | ⟨b2, off2, e, hl, hc⟩
  · subst h2; simp at hj
  · cases e
    rw [List.getElem?_map, List.getElem?_eq_getElem hj] at hu
    rw [add_lit2, hc j hj]
    exact hu

theorem run_appI {w : World} {base : Nat} (ty : TypeId) (S : Option Addr) (k cS : Nat) (xs : List Int) (hS : IdS w base S k cS xs) (Y : Option Addr) (m c : Nat) (ys : List Int) (hY : Ints w Y m ys) (hYn : Y = none ∨ ∃ b off, Y = some ⟨b, off, none⟩) (hk : k + m ≤ 1000) (hbase : base ≤ w.heap.size) :
    ∃ X' c' w', (Builtin.append_ #[28, 28] ty #[.slice S k cS, .slice Y m c]).run Try.prog w = .ok (.slice X' (k + m) c') w' ∧ IdS w' base X' (k + m) c' (xs ++ ys) ∧ (X' = S ∨ ∃ g, X' = some ⟨g, 0, none⟩ ∧ w.heap.size ≤ g) ∧ w.grownBy w' (S.map Addr.block) := by
  obtain ⟨i0, hi, hz0, hz1, hz2⟩ := info_parts Try.info3'
  have hyl := hY.1
  have hxl := hS.rd.1
  have hone : ∀ u ∈ ys.map (Value.int .i64), u.oneCell' = true := by
    intro u hu; obtain ⟨x, _, rfl⟩ := List.mem_map.1 hu; rfl
  rcases Nat.eq_zero_or_pos m with h0 | h0
  · subst h0
    have hys : ys = [] := List.length_eq_zero_iff.1 hyl
    subst hys
    have hsrc : Src Try.prog i0.size 28 (.slice Y 0 c) 0 [] w := by
      rcases hYn with rfl | ⟨b, off, rfl⟩
      · exact Src.ofNil w Try.underlying28 c
      · exact Src.ofSlice w Try.underlying28 _ 0 c [] (by simp) (fun j u h => by simp at h) (fun u h => by cases h)
    have hrun := run_append_nothing w 28 28 ty 3 i0 Try.underlying28 hi S k cS hS.cap _ hsrc
    exact ⟨S, cS, w, hrun, by rw [List.append_nil]; exact hS, .inl rfl, ⟨rfl, rfl, rfl, Nat.le_refl _, fun _ _ _ => rfl⟩⟩
  · obtain ⟨b, off, rfl⟩ : ∃ b off, Y = some ⟨b, off, none⟩ := by
      rcases hY.2 with h2 | ⟨b, off, e, _⟩
      · subst h2; simp at hyl; omega
      · exact ⟨b, off, e⟩
    have hnews := ints_cells hY
    have fresh : ∀ v' w', w'.ownsRow w.heap.size 3 1 v' (k + m) (xs.map (Value.int .i64) ++ ys.map (Value.int .i64)) → w.grownBy w' none → (Builtin.append_ #[28, 28] ty #[.slice S k cS, .slice (some ⟨b, off, none⟩) m c]).run Try.prog w = .ok v' w' →
        ∃ X' c' w', (Builtin.append_ #[28, 28] ty #[.slice S k cS, .slice (some ⟨b, off, none⟩) m c]).run Try.prog w = .ok (.slice X' (k + m) c') w' ∧ IdS w' base X' (k + m) c' (xs ++ ys) ∧ (X' = S ∨ ∃ g, X' = some ⟨g, 0, none⟩ ∧ w.heap.size ≤ g) ∧ w.grownBy w' (S.map Addr.block) := by
      intro v' w' hown hg hrun
      rw [← List.map_append] at hown
      have hown1 : w'.ownsRow base 3 1 v' (k + m) ((xs ++ ys).map (.int .i64)) := ownsRow_base_a hown hbase
      rcases hown.2 with ⟨_, h1⟩ | ⟨g, cap, cur, rfl, hge, _, hc, _⟩
      · omega
      · exact ⟨_, _, w', hrun, IdS.of_row hown1, .inr ⟨g, rfl, hge⟩, ⟨hg.os, hg.tape, hg.output, hg.size, fun i hi _ => hg.block i hi (by simp)⟩⟩
    have grows : cS < k + m → ∀ b2 off2, S = some ⟨b2, off2, none⟩ → ∃ v' w', w'.ownsRow w.heap.size 3 1 v' (k + m) (xs.map (Value.int .i64) ++ ys.map (Value.int .i64)) ∧ w.grownBy w' none ∧ (Builtin.append_ #[28, 28] ty #[.slice S k cS, .slice (some ⟨b, off, none⟩) m c]).run Try.prog w = .ok v' w' := by
      rintro hlt b2 off2 rfl
      obtain ⟨v', w', hrun, hown, hg⟩ := run_append_arg_grows (P := Try.prog) w 28 ty 3 i0 _ 1 8 Try.underlying28 hi hz0 hz1 hz2 rfl (by decide) ⟨b2, off2, none⟩ k cS (xs.map (.int .i64)) (by rw [List.length_map]; omega) (ints_cells hS.rd) ⟨b, off, none⟩ m c (ys.map (.int .i64)) (by rw [List.length_map]; omega) hnews hlt (by unfold maxLen; omega) (by omega)
      exact ⟨v', w', hown, hg, hrun⟩
    rcases hS.own with ho | ⟨rfl, b2, off2, rfl, hb2, hl2⟩
    · rcases ho.2 with ⟨e, h0⟩ | ⟨g, cap, cur, e, h1, h2, h3, h4, h5, h6⟩
      · cases e
        have hxs : xs = [] := List.length_eq_zero_iff.1 hxl
        subst hxs
        obtain ⟨v', w', hrun, hown, hg, _⟩ := run_append_own (P := Try.prog) (w := w) w.heap.size 28 ty 3 i0 _ 1 8 Try.underlying28 hi hz0 hz1 hz2 rfl (by decide) (.slice none 0 0) 0 [] (World.ownsRow_nil _ _ _ _) ⟨b, off, none⟩ m c (ys.map (.int .i64)) (by rw [List.length_map]; omega) hnews hone (by unfold maxLen; omega) (by omega) (Nat.le_refl _)
        exact fresh v' w' hown hg hrun
      · cases e
        by_cases hroom : k + m ≤ cS
        · obtain ⟨v', w', hrun, hown, hg, _⟩ := run_append_own (P := Try.prog) (w := w) base 28 ty 3 i0 _ 1 8 Try.underlying28 hi hz0 hz1 hz2 rfl (by decide) (.slice (some ⟨g, 0, none⟩) k cS) k _ ho ⟨b, off, none⟩ m c (ys.map (.int .i64)) (by rw [List.length_map]; omega) hnews hone (by unfold maxLen; omega) (by omega) hbase
          have hrun2 := run_append_room (P := Try.prog) w 28 ty 3 i0 Try.underlying28 hi g k cS cur h2 ⟨b, off, none⟩ m c (ys.map (.int .i64)) (by rw [List.length_map, hz1]; omega) hnews hone hroom (by rw [List.length_map, hz1]; omega)
          rw [hrun] at hrun2
          obtain ⟨rfl, rfl⟩ := Result.ok.inj hrun2
          rw [← List.map_append] at hown
          exact ⟨_, _, _, hrun, IdS.of_row hown, .inl rfl, hg⟩
        · obtain ⟨v', w', hown, hg, hrun⟩ := grows (by omega) g 0 rfl
          exact fresh v' w' hown hg hrun
    · obtain ⟨v', w', hown, hg, hrun⟩ := grows (by omega) b2 off2 rfl
      exact fresh v' w' hown hg hrun

theorem wpList_appI {ops : Array Oper} {rest : List Oper} {o : Oper} {a : Act} {w : World} {Q : Exit → Act → World → Prop} (hg : o.guard = none) (s x : Operand)
    (hop : o.op = Op.call { callee := Callee.builtin Builtin.append, args := #[s, x], argTypes := #[28, 28] }) (base : Nat)
    (S : Option Addr) (k cS : Nat) (xs : List Int) (hs : a.eval s = .slice S k cS) (Y : Option Addr) (m c : Nat) (ys : List Int) (hx : a.eval x = .slice Y m c) (hS : IdS w base S k cS xs) (hY : Ints w Y m ys) (hYn : Y = none ∨ ∃ b off, Y = some ⟨b, off, none⟩) (hk : k + m ≤ 1000) (hbase : base ≤ w.heap.size)
    (hK : ∀ X' c' w', IdS w' base X' (k + m) c' (xs ++ ys) → (X' = S ∨ ∃ g, X' = some ⟨g, 0, none⟩ ∧ w.heap.size ≤ g) → w.grownBy w' (S.map Addr.block) → wpList Try.prog ops Q rest (a.put o.dst (.slice X' (k + m) c')) w') :
    wpList Try.prog ops Q (o :: rest) a w := by
  refine wpList_plain hg fun K hK' => ?_
  obtain ⟨X', c', w', hrun, h1, h2, h3⟩ := run_appI o.type S k cS xs hS Y m c ys hY hYn hk hbase
  unfold Oper.wp
  simp [execOp, hop, resolve, invoke, builtin, hs, hx, hrun, Result.andThen]
  exact hK' _ _ (hK X' c' w' h1 h2 h3)

theorem step_appI {ops : Array Oper} {o : Oper} {a : Act} {w : World} {K : Act → World → Prop} {Q : Exit → Act → World → Prop} {E : Prop} (hg : o.guard = none) (s x : Operand)
    (hop : o.op = Op.call { callee := Callee.builtin Builtin.append, args := #[s, x], argTypes := #[28, 28] }) (base : Nat)
    (S : Option Addr) (k cS : Nat) (xs : List Int) (hs : a.eval s = .slice S k cS) (Y : Option Addr) (m c : Nat) (ys : List Int) (hx : a.eval x = .slice Y m c) (hS : IdS w base S k cS xs) (hY : Ints w Y m ys) (hYn : Y = none ∨ ∃ b off, Y = some ⟨b, off, none⟩) (hk : k + m ≤ 1000) (hbase : base ≤ w.heap.size)
    (hK : ∀ X' c' w', IdS w' base X' (k + m) c' (xs ++ ys) → (X' = S ∨ ∃ g, X' = some ⟨g, 0, none⟩ ∧ w.heap.size ≤ g) → w.grownBy w' (S.map Addr.block) → K (a.put o.dst (.slice X' (k + m) c')) w') :
    if Region.wanted o (yielded ops a.tmps) = true then Oper.wp Try.prog o a w K Q else E := by
  have hw : Region.wanted o (yielded ops a.tmps) = true := by simp [Region.wanted, hg]
  rw [if_pos hw]
  obtain ⟨X', c', w', hrun, h1, h2, h3⟩ := run_appI o.type S k cS xs hS Y m c ys hY hYn hk hbase
  unfold Oper.wp
  simp [execOp, hop, resolve, invoke, builtin, hs, hx, hrun, Result.andThen]
  exact hK X' c' w' h1 h2 h3

theorem CacheIs.grown {w w' : World} {t b n : Nat} {most last : Int} {es : List Pg} {row : Option Nat} (h : CacheIs w t b n most last es) (hg : w.grownBy w' row) (ht : some t ≠ row) (hb : some b ≠ row) (hy : ∀ y ∈ es, some y.g ≠ row) : CacheIs w' t b n most last es :=
  ⟨hg.cell h.c0 ht, hg.cell h.c1 ht, hg.cell h.c2 ht, (World.frozen?_of_block (hg.block t h.tl ht)).trans h.fr, Nat.lt_of_lt_of_le h.tl hg.size, h.tb, h.map.kept hg hb, h.ris, h.wf, h.lb, h.mb, h.len, h.few,
    fun y hm => ⟨(h.rows y hm).1, Nat.lt_of_lt_of_le (h.rows y hm).2.1 hg.size, (h.rows y hm).2.2.1, (h.rows y hm).2.2.2.1, fun j hj => hg.cell ((h.rows y hm).2.2.2.2 j hj) (hy y hm)⟩⟩

/-- A page but its last byte. -/
def zs255 : List Int := List.replicate 255 0
theorem zs255_len : zs255.length = 255 := List.length_replicate
theorem page_len (x : Int) : (zs255 ++ [x]).length = 256 := by rw [List.length_append, zs255_len]; rfl
theorem page_last (x : Int) (h : 255 < (zs255 ++ [x]).length) : (zs255 ++ [x])[255] = x := by
  rw [List.getElem_append_right (by rw [zs255_len]; exact Nat.le_refl _)]
  simp
theorem make255 (w : World) : (Instr.makeSlice 37 (.int .i64 255) (.int .i64 255)).run Try.prog w = .ok (.slice (some ⟨w.heap.size, 0, none⟩) 255 255) (w.alloc (.cells (madeCells #[.int .u8 0] 255) 5)) :=
  run_make_row' 37 5 (.int .u8 0) 1 Try.underlying37 Try.info5 rfl .i64 .i64 255 (by omega) (by omega) w
theorem own255 {w : World} {base : Nat} (hb : base ≤ w.heap.size) : (w.alloc (.cells (madeCells #[.int .u8 0] 255) 5)).ownsRow base 5 1 (.slice (some ⟨w.heap.size, 0, none⟩) 255 255) 255 (zs255.map (Value.int .u8)) := by
  refine ⟨by rw [List.length_map, zs255_len], .inr ⟨w.heap.size, 255, madeCells #[.int .u8 0] 255, rfl, hb, heap_alloc_new w _, Nat.le_refl _, by unfold maxLen; omega, size_madeCells _ _, ?_⟩⟩
  apply List.ext_getElem?
  intro i
  obtain ⟨cs, h1, h2, h3⟩ := World.rowIs_made w (.int .u8 0) 255 5
  rw [heap_alloc_new] at h1
  cases h1
  rw [List.getElem?_take, List.getElem?_map]
  by_cases hi : i < 255
  · have := h3 i hi
    rw [if_pos (by omega), Array.getElem?_toList, this]
    unfold zs255
    rw [List.getElem?_replicate, if_pos hi]; rfl
  · rw [if_neg (by omega), List.getElem?_eq_none (by rw [zs255_len]; omega)]; rfl
end Go.Proofs.Ytcleabnbdfhmnaa
