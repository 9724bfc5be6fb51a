/- Changes the other way round: the plain law; slices.Clone of changes: a contract. -/
import Derived.Test.YtdnmacehfbjiiaaWake
import Derived.Lib.SliceRun
namespace Go.Proofs.Ytdnmacehfbjiiaa
open Go.RowKit Go.Maps Go.Sort Go.Shelf

def bkK (k : Int) : Int := if k = 1 then 2 else if k = 2 then 1 else k
def back (cs : List Ch) : List Ch := cs.map (fun c => (c.1, bkK c.2))
theorem bkK_bkK (k : Int) : bkK (bkK k) = k := by unfold bkK; split <;> (try split) <;> (try split) <;> (try split) <;> omega
theorem back_back (cs : List Ch) : back (back cs) = cs := by
  unfold back
  rw [List.map_map]
  conv => rhs; rw [← List.map_id cs]
  apply List.map_congr_left
  intro x _
  simp [bkK_bkK]
theorem back_len (cs : List Ch) : (back cs).length = cs.length := by unfold back; simp
theorem kindI_comm (x y : It) : kindI x y = kindI y x := by
  unfold kindI
  simp only [ne_comm (a := x.kind), ne_comm (a := x.ino), ne_comm (a := x.size), ne_comm (a := x.bs)]
theorem kindI_bk (x y : It) : bkK (kindI x y) = kindI x y := by unfold kindI; split <;> (try split) <;> (try split) <;> rfl
theorem chK_back {fa fb : Str → Option It} {p : Str} (h : (fa p).isSome = true ∨ (fb p).isSome = true) : chK fb fa p = bkK (chK fa fb p) := by
  unfold chK
  cases h1 : (fa p).isSome <;> cases h2 : (fb p).isSome
  · simp_all
  · simp [bkK]
  · simp [bkK]
  · simp [kindI_bk, kindI_comm]
theorem bkK_ne (k : Int) : bkK k ≠ 0 ↔ k ≠ 0 := by unfold bkK; split <;> (try split) <;> omega
theorem chs_back' {fa fb : Str → Option It} (ps : List Str) (hm : ∀ p ∈ ps, chK fb fa p = bkK (chK fa fb p)) : chs fb fa ps = back (chs fa fb ps) := by
  induction ps with
  | nil => rfl
  | cons p t ih =>
    have ih' := ih (fun q hq => hm q (List.mem_cons_of_mem _ hq))
    have hp := hm p List.mem_cons_self
    unfold chs at ih' ⊢
    rw [List.filterMap_cons, List.filterMap_cons, hp]
    by_cases hk : chK fa fb p = 0
    · rw [if_neg (show ¬ bkK (chK fa fb p) ≠ 0 by rw [bkK_ne]; simp [hk]), if_neg (by simp [hk])]; exact ih'
    · rw [if_pos (show bkK (chK fa fb p) ≠ 0 by rw [bkK_ne]; exact hk), if_pos hk]
      simp only
      rw [ih']
      rfl
theorem chs_back {fa fb : Str → Option It} {ps : List Str} (h : PathsOf fa fb ps) : chs fb fa ps = back (chs fa fb ps) := chs_back' ps (fun p hp => chK_back ((h.2.2 p).1 hp))
/-- Where the first places have been turned. -/
def mixC (cs : List Ch) (j : Nat) : List Ch := back (cs.take j) ++ cs.drop j
theorem mixC_zero (cs : List Ch) : mixC cs 0 = cs := by unfold mixC back; simp
theorem mixC_all (cs : List Ch) : mixC cs cs.length = back cs := by unfold mixC; simp
theorem mixC_len (cs : List Ch) (j : Nat) : (mixC cs j).length = cs.length := by unfold mixC; rw [List.length_append, back_len, List.length_take, List.length_drop]; omega
theorem mixC_at {cs : List Ch} {j : Nat} {x : Ch} (h : cs[j]? = some x) : (mixC cs j)[j]? = some x := by
  have hj := (List.getElem?_eq_some_iff.1 h).1
  unfold mixC
  rw [List.getElem?_append_right (by rw [back_len, List.length_take]; omega), back_len, List.length_take, Nat.min_eq_left (by omega), Nat.sub_self, List.getElem?_drop]
  exact h
theorem mixC_split {cs : List Ch} {j : Nat} {x : Ch} (h : cs[j]? = some x) : mixC cs j = back (cs.take j) ++ x :: cs.drop (j + 1) := by
  obtain ⟨hj, rfl⟩ := List.getElem?_eq_some_iff.1 h
  unfold mixC
  rw [List.drop_eq_getElem_cons hj]
theorem mixC_next {cs : List Ch} {j : Nat} {x : Ch} (h : cs[j]? = some x) : mixC cs (j + 1) = back (cs.take j) ++ (x.1, bkK x.2) :: cs.drop (j + 1) := by
  unfold mixC
  rw [take_snoc' h]
  unfold back
  rw [List.map_append, List.append_assoc]
  rfl
theorem cellsC_set {cs : List Ch} {j : Nat} {x : Ch} (h : cs[j]? = some x) : (cellsC (mixC cs j)).set (j * 2 + 1) (.int .i64 (bkK x.2)) = cellsC (mixC cs (j + 1)) := by
  have hj := (List.getElem?_eq_some_iff.1 h).1
  rw [mixC_split h, mixC_next h, cellsC_append, cellsC_append]
  have hl : (cellsC (back (cs.take j))).length = j * 2 := by rw [cellsC_len, back_len, List.length_take, Nat.min_eq_left (by omega)]
  rw [List.set_append_right _ _ (by omega), hl, Nat.add_sub_cancel_left]
  rfl
theorem mixC_same {cs : List Ch} {j : Nat} {x : Ch} (h : cs[j]? = some x) (hk : bkK x.2 = x.2) : mixC cs (j + 1) = mixC cs j := by
  rw [mixC_split h, mixC_next h, hk]

theorem changes_cells {w : World} {b off n : Nat} {cs : List Ch} (h : Changes w (some ⟨b, off, none⟩) n cs) : ∀ j u, (cellsC cs)[j]? = some u → w.cell? ((⟨b, off, none⟩ : Addr).add j) = some u := by
  intro j u hu
  have hj := (List.getElem?_eq_some_iff.1 hu).1
  rw [cellsC_len] at hj
  have hi : j / 2 < cs.length := by omega
  rcases h.2 with h2 | ⟨b2, off2, e, hl, hc⟩
  · subst h2; simp at hi
  · cases e
    obtain ⟨c0, c1⟩ := hc _ hi
    obtain ⟨d0, d1⟩ := cellsC_at cs (j / 2) hi
    have hadd : ∀ k, (⟨b, off, none⟩ : Addr).add k = ⟨b, off + k, none⟩ := fun k => by unfold Addr.add; split <;> simp_all
    rw [hadd]
    have h3 : j = j / 2 * 2 ∨ j = j / 2 * 2 + 1 := by omega
    rcases h3 with h3 | h3
    · rw [h3] at hu ⊢; rw [d0] at hu; cases hu; exact c0
    · rw [h3] at hu ⊢; rw [d1] at hu; cases hu; rw [← Nat.add_assoc]; exact c1
/-- A row of changes of the call's own. -/
def RowC (B : Nat) (cs : List Ch) (w : World) (e : Ending) (w' : World) : Prop := ∃ X c, e = .returned (.slice X cs.length c) ∧ w'.ownsRow B 33 2 (.slice X cs.length c) cs.length (cellsC cs) ∧ Below B w w'
theorem RowC.of {B : Nat} {cs : List Ch} {w w' : World} {v : Value} {n : Nat} (hn : n = cs.length) (h : w'.ownsRow B 33 2 v n (cellsC cs)) (hb : Below B w w') : RowC B cs w (.returned v) w' := by
  subst hn
  obtain ⟨X, c, rfl⟩ := own_slice h
  exact ⟨X, c, rfl, h, hb⟩
set_option maxRecDepth 100000 in
set_option maxHeartbeats 4000000 in
theorem clone_any {A : Option Addr} {n : Nat} {cs : List Ch} {w : World} (cap : Nat) (h : Changes w A n cs) (hm : n ≤ 2000) : Calls Try.prog 21 #[.slice A n cap] w (RowC w.heap.size cs w) := by
  have hl := h.1
  obtain ⟨i0, hi, hz0, hz1, hz2⟩ := info_parts info33
  cases A with
  | none =>
    have hxs : cs = [] := by
      rcases h.2 with h2 | ⟨b, off, e, _⟩
      · exact h2
      · cases e
    subst hxs
    clear hl hi hz0 hz1 hz2 h
    have hnil : ∀ w' : World, (binOp .eql 25 (.slice none n cap) (.slice none 0 0)).run Try.prog w' = .ok (.bool true) w' := fun w' => Lib.run_eql_slice_nil w' 25 33 none n cap 0 0 Try.underlying25
    go_enter Try.func21, Try.ntmps21
    go_wp2
    go_ret
    exact RowC.of rfl (World.ownsRow_nil _ _ _ _) (Below.refl _ _)
  | some a =>
    have H := Lib.hid h
    clear h
    have hnil : ∀ w' : World, (binOp .eql 25 (.slice (some a) n cap) (.slice none 0 0)).run Try.prog w' = .ok (.bool false) w' := fun w' => Lib.run_eql_slice_nil w' 25 33 (some a) n cap 0 0 Try.underlying25
    go_enter Try.func21, Try.ntmps21
    have hadd : ∀ (b' : Nat) (w' : World), Below w.heap.size w w' → ∀ j u, (cellsC cs)[j]? = some u → w'.cell? (a.add j) = some u := by
      intro b' w' hb j u hu
      rcases H.out.2 with h2 | ⟨b, off, e, hl, hc⟩
      · subst h2; simp [cellsC] at hu
      · cases e; exact changes_cells (H.out.below hb) j u hu
    have hown0 := World.ownsRow_lit (base := w.heap.size) (e := 33) (size := 2) w #[] 0 (Nat.le_refl _) (by unfold maxLen; omega) rfl
    have Hown0 := Lib.hid hown0
    have hb0 : Below w.heap.size w (w.alloc (.cells #[] 33)) := (Below.refl _ _).alloc (Nat.le_refl _) _
    have hcl := cellsC_len cs
    clear hown0
    go_wp2_with (at_builtin; refine wpList_append_own _ rfl _ _ 25 rfl w.heap.size 33 i0 (.agg #[encStr [], .int .i64 0]) 2 24 Try.underlying25 hi hz0 hz1 hz2 rfl (by decide) _ 0 [] rfl Hown0.out a n cap (cellsC cs) rfl ?c0 ?c1 ?c2 ?c3 ?c4 ?c5 ?_)
    case c1 => exact hadd 0 _ hb0
    case c2 => intro u hu; obtain ⟨x, _, hx⟩ := List.mem_flatMap.1 hu; simp only [List.mem_cons, List.not_mem_nil, or_false] at hx; rcases hx with rfl | rfl <;> rfl
    case c3 => unfold maxLen; omega
    case c4 => omega
    intro v' w3 hown3 hgrow3 _
    have hb3 := hb0.grown hgrow3 hb0.size (fun k hk => (Hown0.out.lt k hk).1)
    have Hown3 := Lib.hid hown3
    clear hown3
    go_wp2
    go_ret
    exact RowC.of (by omega) Hown3.out hb3
end Go.Proofs.Ytdnmacehfbjiiaa
