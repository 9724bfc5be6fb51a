/- A table's map, as a rising list of locks. -/
import Derived.Test.YtcleabnbdfhmnaaTab
import Derived.Maps.Range
namespace Go.Proofs.Ytcleabnbdfhmnaa
open Go.RowKit Go.Maps Go.Sort Go.Shelf

def W64 (n : Int) : Prop := -9223372036854775808 ≤ n ∧ n < 9223372036854775808
theorem W64.wf {n : Int} (h : W64 n) : (Lit.int .i64 n).wf = true := by
  unfold W64 at h
  simp [Lit.wf, IntKind.min, IntKind.max, IntKind.signed, IntKind.bits]; omega

/-- The map at b has these locks. -/
def MapIs (w : World) (b n : Nat) (xs : List L) : Prop :=
  ∃ D, w.ownsMap Try.prog 3 lockR b n D ∧ (∀ k, Maps.has D (.int .i64 k) = xs.any (fun y => y.who == k)) ∧ ∀ y ∈ xs, ∀ z, D.atKey (.int .i64 y.who) z = lockD y.ino y.al
def Rising (xs : List L) : Prop := xs.Pairwise (fun a b => a.who < b.who)

theorem keyed3 : Keyed Try.prog 3 := int_keyed Try.underlying3
theorem lockR_mk (i : Int) (a : Bool) : lockR (.agg #[.int .i64 i, .bool a]) = some (lockD i a, []) := rfl
theorem lockR_inv {v : Value} {i : Int} {a : Bool} {ps : List MemPlace} (h : lockR v = some (lockD i a, ps)) : v = .agg #[.int .i64 i, .bool a] := by
  unfold lockR at h
  split at h
  · rename_i cs
    split at h
    · rename_i hcs
      simp only [Option.some.injEq, Prod.mk.injEq, lockD, DataW.agg.injEq, List.cons.injEq, DataW.lit.injEq, Lit.int.injEq, true_and, Lit.bool.injEq, and_true] at h
      obtain ⟨⟨rfl, rfl⟩, _⟩ := h
      rw [show cs = #[.int .i64 _, .bool _] from Array.toList_inj.1 hcs]
    · cases h
  · cases h
theorem zeroL (w : World) : (zeroValue 54).run Try.prog w = .ok (.agg #[.int .i64 0, .bool false]) w := by kernel_rfl

theorem MapIs.lt {w : World} {b n : Nat} {xs : List L} (h : MapIs w b n xs) : b < w.heap.size := by
  obtain ⟨D, hown, _⟩ := h; exact hown.lt
theorem MapIs.kept {w w' : World} {b n : Nat} {xs : List L} {row : Option Nat} (h : MapIs w b n xs) (hg : w.grownBy w' row) (hne : some b ≠ row) : MapIs w' b n xs := by
  obtain ⟨D, hown, h1, h2⟩ := h; exact ⟨D, hown.kept hg hne, h1, h2⟩
theorem Below.grownBy {w w' : World} (h : Below w.heap.size w w') : w.grownBy w' none := ⟨h.os, h.tape, h.output, h.size, fun k hk _ => h.block k hk⟩
theorem MapIs.below {w w' : World} {b n : Nat} {xs : List L} (h : MapIs w b n xs) (hb : Below w.heap.size w w') : MapIs w' b n xs := h.kept (Below.grownBy hb) (by simp)
theorem MapIs.mono {w : World} {b n n' : Nat} {xs : List L} (h : MapIs w b n xs) (hn : n ≤ n') : MapIs w b n' xs := by
  obtain ⟨D, hown, h1, h2⟩ := h; exact ⟨D, hown.mono hn, h1, h2⟩

def findL (xs : List L) (k : Int) : L := (xs.find? (fun y => y.who == k)).getD ⟨k, 0, false⟩
theorem findL_of {xs : List L} (hr : Rising xs) {y : L} (hy : y ∈ xs) : findL xs y.who = y := by
  unfold findL
  induction xs with
  | nil => cases hy
  | cons x t ih =>
    unfold Rising at hr
    rw [List.pairwise_cons] at hr
    rcases List.mem_cons.1 hy with rfl | h1
    · simp [List.find?]
    · have h2 := hr.1 y h1
      have h3 : (x.who == y.who) = false := by rw [beq_eq_false_iff_ne]; omega
      rw [List.find?_cons_of_neg (by simp [h3])]
      exact ih hr.2 h1
theorem any_of {xs : List L} {y : L} (hy : y ∈ xs) : xs.any (fun z => z.who == y.who) = true := List.any_eq_true.2 ⟨y, hy, by simp⟩
theorem findL_none {xs : List L} {k : Int} (h : xs.any (fun y => y.who == k) = false) : findL xs k = ⟨k, 0, false⟩ := by
  unfold findL
  rw [List.find?_eq_none.2]
  · rfl
  · intro y hy hk
    rw [List.any_eq_false] at h
    exact h y hy hk

/-- What is at a key. -/
theorem MapIs.atKey {D : DataW Unit} {xs : List L} (h1 : ∀ k, Maps.has D (.int .i64 k) = xs.any (fun y => y.who == k)) (h2 : ∀ y ∈ xs, ∀ z, D.atKey (.int .i64 y.who) z = lockD y.ino y.al) (k : Int) : D.atKey (.int .i64 k) (lockD 0 false) = lockD (findL xs k).ino (findL xs k).al := by
  cases hk : xs.any (fun y => y.who == k) with
  | false =>
    rw [findL_none hk, Maps.atKey_of_not_has (by rw [h1, hk])]
  | true =>
    have : ∃ y, xs.find? (fun y => y.who == k) = some y := by
      rw [← Option.isSome_iff_exists, List.find?_isSome]
      obtain ⟨y, hy, hk⟩ := List.any_eq_true.1 hk
      exact ⟨y, hy, hk⟩
    obtain ⟨y, hy⟩ := this
    have hm := List.mem_of_find?_eq_some hy
    have hw := List.find?_some (p := fun y : L => y.who == k) hy
    have hw : y.who = k := by simpa using hw
    unfold findL
    rw [hy]
    subst hw
    exact h2 y hm _

theorem MapIs.look {w : World} {b n : Nat} {xs : List L} (h : MapIs w b n xs) {k : Int} (hk : W64 k) :
    (Instr.lookup 50 (.map (some b)) (.int .i64 k) false).run Try.prog w = .ok (.agg #[.int .i64 (findL xs k).ino, .bool (findL xs k).al]) w ∧
    (Instr.lookup 50 (.map (some b)) (.int .i64 k) true).run Try.prog w = .ok (.tuple #[.agg #[.int .i64 (findL xs k).ino, .bool (findL xs k).al], .bool (xs.any (fun y => y.who == k))]) w := by
  obtain ⟨D, hown, h1, h2⟩ := h
  have hat := MapIs.atKey h1 h2 k
  have hkey := keyOf_int_mk Try.underlying3 hk.wf
  obtain ⟨v, ps, hrun, hv⟩ := hown.lookup keyed3 Try.underlying50 (zeroL w) (lockR_mk 0 false) hkey
  obtain ⟨v', ps', hrun', hv'⟩ := hown.look_ok keyed3 Try.underlying50 (zeroL w) (lockR_mk 0 false) hkey
  rw [hat] at hv hv'
  rw [lockR_inv hv] at hrun
  rw [lockR_inv hv', h1] at hrun'
  exact ⟨hrun, hrun'⟩

/-- One more, in its place. -/
def insL (xs : List L) (d : L) : List L := xs.takeWhile (fun y => decide (y.who < d.who)) ++ d :: xs.dropWhile (fun y => decide (y.who < d.who))
theorem mem_insL {xs : List L} {d y : L} : y ∈ insL xs d ↔ y = d ∨ y ∈ xs := by
  unfold insL
  have := List.takeWhile_append_dropWhile (p := fun y : L => decide (y.who < d.who)) (l := xs)
  constructor
  · intro h
    rw [List.mem_append, List.mem_cons] at h
    rcases h with h | rfl | h
    · right; rw [← this]; exact List.mem_append_left _ h
    · exact .inl rfl
    · right; rw [← this]; exact List.mem_append_right _ h
  · rintro (rfl | h)
    · simp
    · rw [← this, List.mem_append] at h
      rw [List.mem_append, List.mem_cons]
      rcases h with h | h
      · exact .inl h
      · exact .inr (.inr h)
theorem any_insL (xs : List L) (d : L) (f : L → Bool) : (insL xs d).any f = (f d || xs.any f) := by
  rw [Bool.eq_iff_iff, List.any_eq_true, Bool.or_eq_true, List.any_eq_true]
  constructor
  · rintro ⟨y, hy, hf⟩
    rcases mem_insL.1 hy with rfl | h
    · exact .inl hf
    · exact .inr ⟨y, h, hf⟩
  · rintro (h | ⟨y, hy, hf⟩)
    · exact ⟨d, mem_insL.2 (.inl rfl), h⟩
    · exact ⟨y, mem_insL.2 (.inr hy), hf⟩
theorem rising_insL {xs : List L} (hr : Rising xs) {d : L} (hn : xs.any (fun y => y.who == d.who) = false) : Rising (insL xs d) := by
  rw [List.any_eq_false] at hn
  unfold Rising at *
  induction xs with
  | nil => simp [insL]
  | cons x t ih =>
    rw [List.pairwise_cons] at hr
    have ht := ih hr.2 (fun y hy => hn y (by simp [hy]))
    have hx := hn x (by simp)
    by_cases hlt : x.who < d.who
    · have e : insL (x :: t) d = x :: insL t d := by unfold insL; simp [hlt]
      rw [e, List.pairwise_cons]
      refine ⟨fun y hy => ?_, ht⟩
      rcases mem_insL.1 hy with rfl | h
      · exact hlt
      · exact hr.1 y h
    · have e : insL (x :: t) d = d :: x :: t := by unfold insL; simp [hlt]
      have hd : d.who < x.who := by
        simp only [beq_iff_eq] at hx
        omega
      rw [e, List.pairwise_cons, List.pairwise_cons]
      refine ⟨fun y hy => ?_, hr.1, hr.2⟩
      rcases List.mem_cons.1 hy with rfl | h
      · exact hd
      · have := hr.1 y h; omega

theorem MapIs.putD {D : DataW Unit} {xs : List L} {d : L} (hw : W64 d.who) (hm : IsMap D) (hn : xs.any (fun y => y.who == d.who) = false) (h1 : ∀ k, Maps.has D (.int .i64 k) = xs.any (fun y => y.who == k)) (h2 : ∀ y ∈ xs, ∀ z, D.atKey (.int .i64 y.who) z = lockD y.ino y.al) :
    (∀ k, Maps.has (D.put (.int .i64 d.who) (lockD d.ino d.al)) (.int .i64 k) = (insL xs d).any (fun y => y.who == k)) ∧ ∀ y ∈ insL xs d, ∀ z, (D.put (.int .i64 d.who) (lockD d.ino d.al)).atKey (.int .i64 y.who) z = lockD y.ino y.al := by
  have hkl : WideAt.IsKeyLit (.int .i64 d.who) := trivial
  refine ⟨fun k => ?_, fun y hy z => ?_⟩
  · rw [any_insL]
    by_cases hk : k = d.who
    · subst hk; rw [Maps.has_put_same hm hkl]; simp
    · have : (d.who == k) = false := by rw [beq_eq_false_iff_ne]; exact fun e => hk e.symm
      rw [Maps.has_put_other (fun e => hk (by simpa using e)), h1, this]; rfl
  · rcases mem_insL.1 hy with rfl | h
    · rw [Maps.atKey_put_same hm hkl]
    · have hne : y.who ≠ d.who := by
        rw [List.any_eq_false] at hn
        intro e; exact hn y h (by simp [e])
      rw [Maps.atKey_put_other (fun e => hne (by simpa using e))]
      exact h2 y h z

/-- One less. -/
def delL (xs : List L) (k : Int) : List L := xs.filter (fun y => !(y.who == k))
theorem MapIs.delD {D : DataW Unit} {xs : List L} {k : Int} (h1 : ∀ k, Maps.has D (.int .i64 k) = xs.any (fun y => y.who == k)) (h2 : ∀ y ∈ xs, ∀ z, D.atKey (.int .i64 y.who) z = lockD y.ino y.al) :
    (∀ j, Maps.has (D.del (.int .i64 k)) (.int .i64 j) = (delL xs k).any (fun y => y.who == j)) ∧ ∀ y ∈ delL xs k, ∀ z, (D.del (.int .i64 k)).atKey (.int .i64 y.who) z = lockD y.ino y.al := by
  unfold delL
  refine ⟨fun j => ?_, fun y hy z => ?_⟩
  · by_cases hk : j = k
    · subst hk
      rw [Maps.has_del_same, eq_comm, List.any_eq_false]
      intro y hy
      have := (List.mem_filter.1 hy).2
      simpa using this
    · rw [Maps.has_del_other (fun e => hk (by simpa using e)), h1, Bool.eq_iff_iff, List.any_eq_true, List.any_eq_true]
      constructor
      · rintro ⟨y, hy, hf⟩
        have : y.who = j := by simpa using hf
        exact ⟨y, List.mem_filter.2 ⟨hy, by simp [this, hk]⟩, hf⟩
      · rintro ⟨y, hy, hf⟩
        exact ⟨y, (List.mem_filter.1 hy).1, hf⟩
  · obtain ⟨hy1, hy2⟩ := List.mem_filter.1 hy
    have hne : y.who ≠ k := by simpa using hy2
    rw [Maps.atKey_del_other (fun e => hne (by simpa using e))]
    exact h2 y hy1 z

/-- The keys, sorted. -/
theorem MapIs.keys {w : World} {b n : Nat} {D : DataW Unit} {xs : List L} (hown : w.ownsMap Try.prog 3 lockR b n D) (h1 : ∀ k, Maps.has D (.int .i64 k) = xs.any (fun y => y.who == k)) (hr : Rising xs) {ss : List Int} (hp : ss.Perm (intKeys D)) : ss.mergeSort leI = xs.map L.who := by
  have hc : CollectedI D (fun _ => false) (xs.map L.who) := by
    refine ⟨?_, fun x => ?_⟩
    · rw [List.nodup_iff_pairwise_ne, List.pairwise_map]
      exact hr.imp (fun h => by omega)
    · rw [h1, List.mem_map, List.any_eq_true]
      constructor
      · rintro ⟨y, hy, rfl⟩; exact ⟨⟨y, hy, by simp⟩, rfl⟩
      · rintro ⟨⟨y, hy, e⟩, _⟩; exact ⟨y, hy, by simpa using e⟩
  have hp2 := hc.perm hown keyed3 Try.underlying3 (fun _ => rfl)
  rw [mergeSort_of_perm_i (hp.trans hp2.symm)]
  refine List.mergeSort_of_pairwise ?_
  rw [List.pairwise_map]
  exact hr.imp (fun h => by simp only [leI, decide_eq_true_eq]; omega)
end Go.Proofs.Ytcleabnbdfhmnaa
