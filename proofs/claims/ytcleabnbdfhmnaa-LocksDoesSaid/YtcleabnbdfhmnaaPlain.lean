/- Plain facts for LocksDoes: the list that the law keeps is the table's. -/
import Derived.Test.YtcleabnbdfhmnaaAlike
namespace Go.Proofs.Ytcleabnbdfhmnaa
open Go.RowKit Go.Maps Go.Sort Go.Shelf

/-- The last place, of the first i, where who stands; -1: none. -/
def atOf (xs : List De) (who : Int) : Nat → Int
  | 0 => -1
  | i + 1 => match xs[i]? with
    | none => atOf xs who i
    | some y => if y.d.who = who then i else atOf xs who i
theorem atOf_at {xs : List De} {who : Int} {i : Nat} {y : De} (h : xs[i]? = some y) : atOf xs who (i + 1) = if y.d.who = who then (i : Int) else atOf xs who i := by
  show (match xs[i]? with | none => _ | some y => _) = _
  rw [h]
theorem atOf_bounds (xs : List De) (who : Int) : ∀ i, -1 ≤ atOf xs who i ∧ atOf xs who i < i := by
  intro i
  induction i with
  | zero => simp [atOf]
  | succ i ih =>
    unfold atOf
    split
    · omega
    · split <;> omega
theorem atOf_find (xs : List De) (who : Int) : ∀ i, i ≤ xs.length → (∀ k : Nat, atOf xs who i = k → ∃ y, xs[k]? = some y ∧ y.d.who = who) ∧ (atOf xs who i = -1 → ∀ k y, k < i → xs[k]? = some y → y.d.who ≠ who) := by
  intro i
  induction i with
  | zero => intro _; exact ⟨(fun k h => by simp [atOf] at h), (fun _ k y hk => by omega)⟩
  | succ i ih =>
    intro hi
    have hx : xs[i]? = some xs[i] := List.getElem?_eq_getElem (by omega)
    generalize xs[i] = y at hx
    obtain ⟨h1, h2⟩ := ih (by omega)
    rw [atOf_at hx]
    by_cases hw : y.d.who = who
    · rw [if_pos hw]
      refine ⟨fun k hk => ?_, fun hk => by omega⟩
      have e : i = k := by omega
      subst e
      exact ⟨y, hx, hw⟩
    · rw [if_neg hw]
      refine ⟨h1, fun hk k z hkl hz => ?_⟩
      rcases Nat.lt_succ_iff_lt_or_eq.1 hkl with h | rfl
      · exact h2 hk k z h hz
      · rw [hx] at hz; cases hz; exact hw
/-- .. of all. -/
def atE (xs : List De) (who : Int) : Int := atOf xs who xs.length
theorem atE_any (xs : List De) (who : Int) : (xs.map De.d).any (fun y => y.who == who) = decide (0 ≤ atE xs who) := by
  have hb := atOf_bounds xs who xs.length
  obtain ⟨h1, h2⟩ := atOf_find xs who xs.length (Nat.le_refl _)
  unfold atE
  rw [Bool.eq_iff_iff, List.any_eq_true, decide_eq_true_iff]
  constructor
  · rintro ⟨y, hy, hw⟩
    obtain ⟨z, hz, rfl⟩ := List.mem_map.1 hy
    obtain ⟨k, hk⟩ := List.getElem?_of_mem hz
    apply Int.not_lt.1
    intro hn
    exact h2 (by omega) k z (List.getElem?_eq_some_iff.1 hk).1 hk (by simpa using hw)
  · intro h0
    obtain ⟨y, hy, hw⟩ := h1 (atOf xs who xs.length).toNat (by omega)
    exact ⟨y.d, List.mem_map.2 ⟨y, List.mem_of_getElem? hy, rfl⟩, by simp [hw]⟩

/-- Whether it may be, by the first i. -/
def mayN (xs : List De) (d : L) (i : Nat) : Bool := decide (0 ≤ d.who) && (xs.take i).all (fun y => !(y.d.who == d.who) && !(y.d.ino == d.ino && (y.d.al || d.al)))
theorem mayN_zero (xs : List De) (d : L) : mayN xs d 0 = decide (0 ≤ d.who) := by simp [mayN]
theorem mayN_at {xs : List De} {d : L} {i : Nat} {y : De} (h : xs[i]? = some y) : mayN xs d (i + 1) = (mayN xs d i && (!(y.d.who == d.who) && !(y.d.ino == d.ino && (y.d.al || d.al)))) := by
  unfold mayN
  rw [take_snoc h, List.all_append]
  simp [Bool.and_assoc]
theorem mayN_all (xs : List De) (d : L) : mayN xs d xs.length = mayB (xs.map De.d) d.who d.ino d.al := by
  unfold mayN mayB
  rw [List.take_length, Bool.eq_iff_iff]
  simp only [Bool.and_eq_true, decide_eq_true_eq, List.all_eq_true, Bool.not_eq_true', List.any_eq_false, List.mem_map, Bool.and_eq_false_imp, beq_iff_eq, beq_eq_false_iff_ne, Bool.or_eq_false_iff, forall_exists_index, and_imp, forall_apply_eq_imp_iff₂]
  constructor
  · rintro ⟨h1, h2⟩
    refine ⟨⟨fun y hy => (h2 y hy).1, h1⟩, fun y hy => ?_⟩
    have := (h2 y hy).2
    intro hc
    simp only [Bool.or_eq_true] at hc
    have h3 := this hc.1
    rcases hc.2 with h | h
    · rw [h] at h3; exact absurd h3.2 (by simp)
    · rw [h] at h3; exact absurd h3.1 (by simp)
  · rintro ⟨⟨h1, h2⟩, h3⟩
    refine ⟨h2, fun y hy => ⟨h1 y hy, fun hi => ?_⟩⟩
    have := h3 y hy
    cases hya : y.d.al with
    | false =>
      cases hda : d.al with
      | false => exact ⟨rfl, rfl⟩
      | true => exact absurd (by simp [hi, hda]) this
    | true => exact absurd (by simp [hi, hya]) this

/-- One is taken out. -/
theorem cut_map {xs : List De} (hr : Rising (xs.map De.d)) {who : Int} {k : Nat} {y : De} (hy : xs[k]? = some y) (hw : y.d.who = who) : (xs.take k ++ xs.drop (k + 1)).map De.d = delL (xs.map De.d) who := by
  induction xs generalizing k with
  | nil => simp at hy
  | cons x t ih =>
    unfold Rising at hr
    rw [List.map_cons, List.pairwise_cons] at hr
    unfold delL
    cases k with
    | zero =>
      simp at hy
      subst hy
      rw [List.map_cons, List.filter_cons_of_neg (by simp [hw])]
      simp only [List.take_zero, List.nil_append, List.drop_succ_cons, List.drop_zero]
      rw [eq_comm, List.filter_eq_self]
      intro z hz
      have := hr.1 z hz
      have hne : z.who ≠ who := by omega
      simp [hne]
    | succ k =>
      have hy' : t[k]? = some y := by simpa using hy
      have hx : x.d.who < y.d.who := hr.1 y.d (List.mem_map.2 ⟨y, List.mem_of_getElem? hy', rfl⟩)
      have hne : x.d.who ≠ who := by omega
      rw [List.map_cons, List.filter_cons_of_pos (by simp [hne])]
      have := ih hr.2 hy'
      unfold delL at this
      simp only [List.take_succ_cons, List.cons_append, List.map_cons, List.drop_succ_cons]
      rw [this]

/-- Where one goes in. -/
def kOf (xs : List De) (who : Int) : Nat := (xs.takeWhile (fun y => decide (y.d.who < who))).length
theorem kOf_le (xs : List De) (who : Int) : kOf xs who ≤ xs.length := (List.takeWhile_sublist _).length_le
theorem kOf_lt {xs : List De} {who : Int} : ∀ {i : Nat}, i < kOf xs who → ∃ y, xs[i]? = some y ∧ y.d.who < who := by
  induction xs with
  | nil => intro i h; simp [kOf] at h
  | cons x t ih =>
    intro i h
    unfold kOf at h
    by_cases hx : x.d.who < who
    · rw [List.takeWhile_cons_of_pos (by simpa using hx)] at h
      cases i with
      | zero => exact ⟨x, rfl, hx⟩
      | succ i => exact ih (i := i) (by simpa [kOf] using h)
    · rw [List.takeWhile_cons_of_neg (by simpa using hx)] at h
      simp at h
theorem kOf_end {xs : List De} {who : Int} {y : De} (h : xs[kOf xs who]? = some y) : ¬ y.d.who < who := by
  induction xs with
  | nil => simp at h
  | cons x t ih =>
    unfold kOf at h
    by_cases hx : x.d.who < who
    · rw [List.takeWhile_cons_of_pos (by simpa using hx)] at h
      exact ih (by simpa [kOf] using h)
    · rw [List.takeWhile_cons_of_neg (by simpa using hx)] at h
      simp at h
      subst h; exact hx
theorem ins_map (xs : List De) (x : De) : (xs.take (kOf xs x.d.who) ++ ([x] ++ xs.drop (kOf xs x.d.who))).map De.d = insL (xs.map De.d) x.d := by
  have h : ∀ l : List De, l.take (kOf l x.d.who) = l.takeWhile (fun y => decide (y.d.who < x.d.who)) ∧ l.drop (kOf l x.d.who) = l.dropWhile (fun y => decide (y.d.who < x.d.who)) := by
    intro l
    have h1 := List.takeWhile_append_dropWhile (p := fun y : De => decide (y.d.who < x.d.who)) (l := l)
    unfold kOf
    generalize l.takeWhile (fun y => decide (y.d.who < x.d.who)) = A at *
    generalize l.dropWhile (fun y => decide (y.d.who < x.d.who)) = B at *
    subst h1
    exact ⟨List.take_left, List.drop_left⟩
  rw [(h xs).1, (h xs).2]
  unfold insL
  rw [List.map_append, List.map_append, List.takeWhile_map, List.dropWhile_map]
  rfl

theorem usL_map (xs : List De) (i : Nat) (ino : Int) {y : De} (h : xs[i]? = some y) : usL ((xs.take (i + 1)).map De.d) ino = usL ((xs.take i).map De.d) ino ++ if y.d.ino = ino then [y.d.who] else [] := by
  rw [take_snoc h, List.map_append]
  exact usL_snoc _ y.d ino
theorem find_at {xs : List De} (hr : Rising (xs.map De.d)) {k : Nat} {y : De} (hy : xs[k]? = some y) : findL (xs.map De.d) y.d.who = y.d :=
  findL_of hr (List.mem_map.2 ⟨y, List.mem_of_getElem? hy, rfl⟩)
end Go.Proofs.Ytcleabnbdfhmnaa
