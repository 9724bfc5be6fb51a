/- A cache's map, as a rising list of pages: their numbers, where their bytes lie. -/
import Derived.Test.YtcleabnbdfhmnaaUsers
namespace Go.Proofs.Ytcleabnbdfhmnaa
open Go.RowKit Go.Maps Go.Sort Go.Shelf

/-- A page: its number, the block and the room of its bytes, the bytes. -/
structure Pg where
  id : Int
  g : Nat
  c : Nat
  bs : List Int
deriving DecidableEq

def pageD (g c : Nat) : DataW Unit := .agg [.lit (.int .i64 g), .lit (.int .i64 c)]
def pageR : Value → Option (DataW Unit × List MemPlace)
  | .slice a n c => match a with
    | some ⟨g, 0, none⟩ => if n = 256 then some (pageD g c, []) else none
    | none => if n = 0 ∧ c = 0 then some (.lit (.bool false), []) else none
    | _ => none
  | _ => none

theorem keysC_call (mb : Option Nat) (W : World) : Calls Try.prog 32 #[.map mb] W fun e w' => e = .returned (.func (.func 36) #[] #[.pointer (some ⟨W.heap.size, 0, none⟩)]) ∧ w' = W.alloc (.cells #[.map mb] 56) :=
  (callsIn_wide (n := 5)).1 (AnyZI.keys_in Try.keysC Fence.wide 5 trivial rfl mb W)

theorem sortedC_call {R : Value → Option (DataW Unit × List MemPlace)} (b nn : Nat) (D0 : DataW Unit) (w : World) (hown : w.ownsMap Try.prog 3 R b nn D0) (hmax : Maps.size D0 ≤ maxLen) (hbytes : Maps.size D0 * 8 ≤ 140737488355328) :
    Calls Try.prog 31 #[.func (.func 36) #[] #[.pointer (some ⟨w.heap.size, 0, none⟩)]] (w.alloc (.cells #[.map (some b)] 56)) fun e w' => ∃ (v : Value) (ss : List Int), e = .returned v ∧ ss.Perm (intKeys D0) ∧
      w'.ownsRow (w.alloc (.cells #[.map (some b)] 56)).heap.size 3 1 v ss.length ((ss.mergeSort leI).map encZ) ∧ (v = .slice none 0 0 ↔ ss = []) ∧ Below (w.alloc (.cells #[.map (some b)] 56)).heap.size (w.alloc (.cells #[.map (some b)] 56)) w' := by
  have hbl := hown.lt
  have hseq : SeqGives Fence.wide 2 Try.prog 36 #[.pointer (some ⟨w.heap.size, 0, none⟩)] encZ (fun ss => ss.Perm (intKeys D0)) (Maps.size D0) (w.alloc (.cells #[.map (some b)] 56)) :=
    AnyZI.keys_gives (ρ := Try.keysC_ren) { Try.keysC with } Fence.wide _ trivial rfl (by omega) w.heap.size b nn D0 _ (by simp) (by simp) (by
      obtain ⟨es, clock, hb, Ft, hs, hD⟩ := hown
      exact ⟨es, clock, (Below.heap_alloc _ _ b hbl).trans hb, Ft, hs, hD⟩)
  have cS := AnyZI.sorted_in Try.sorted Fence.wide 5 trivial trivial trivial trivial rfl (by omega) (sorts _) (enters_of Try.func35 (by kernel_rfl) rfl) 36 #[.pointer (some ⟨w.heap.size, 0, none⟩)] trivial (enters_of Try.func36 (by kernel_rfl) rfl) _ _ hmax hbytes _ hseq
  change CallsIn _ _ Try.prog 31 _ _ _ at cS
  refine ((callsIn_wide (n := 5)).1 cS).mono ?_
  rintro e w' ⟨v, ss, rfl, hS, hrow, hnil, hb⟩
  exact ⟨v, ss, rfl, hS, hrow, hnil, hb⟩
/-- The map at b has these pages. -/
def CMap (w : World) (b n : Nat) (xs : List Pg) : Prop :=
  ∃ D, w.ownsMap Try.prog 3 pageR b n D ∧ (∀ k, Maps.has D (.int .i64 k) = xs.any (fun y => y.id == k)) ∧ ∀ y ∈ xs, ∀ z, D.atKey (.int .i64 y.id) z = pageD y.g y.c
def RisingC (xs : List Pg) : Prop := xs.Pairwise (fun a b => a.id < b.id)

theorem pageR_inv {v : Value} {g c : Nat} {ps : List MemPlace} (h : pageR v = some (pageD g c, ps)) : v = .slice (some ⟨g, 0, none⟩) 256 c := by
  unfold pageR at h
  split at h
  · rename_i a n c'
    split at h
    · rename_i g' 
      split at h
      · rename_i hn
        simp only [Option.some.injEq, Prod.mk.injEq, pageD, DataW.agg.injEq, List.cons.injEq, DataW.lit.injEq, Lit.int.injEq, true_and, and_true] at h
        obtain ⟨⟨h1, h2⟩, _⟩ := h
        subst hn
        have e1 : g' = g := by omega
        have e2 : c' = c := by omega
        subst e1 e2
        rfl
      · cases h
    · simp [pageD] at h
    · cases h
  · cases h
theorem pageR_nil {v : Value} {ps : List MemPlace} (h : pageR v = some (.lit (.bool false), ps)) : v = .slice none 0 0 := by
  unfold pageR at h
  split at h
  · split at h
    · split at h
      · simp [pageD] at h
      · cases h
    · split at h
      · rename_i hn; obtain ⟨rfl, rfl⟩ := hn; rfl
      · cases h
    · cases h
  · cases h
theorem zeroC (w : World) : (zeroValue 37).run Try.prog w = .ok (.slice none 0 0) w := by kernel_rfl

theorem CMap.lt {w : World} {b n : Nat} {xs : List Pg} (h : CMap w b n xs) : b < w.heap.size := by
  obtain ⟨D, hown, _⟩ := h; exact hown.lt
theorem CMap.kept {w w' : World} {b n : Nat} {xs : List Pg} {row : Option Nat} (h : CMap w b n xs) (hg : w.grownBy w' row) (hne : some b ≠ row) : CMap w' b n xs := by
  obtain ⟨D, hown, h1, h2⟩ := h; exact ⟨D, hown.kept hg hne, h1, h2⟩
theorem CMap.below {w w' : World} {b n : Nat} {xs : List Pg} (h : CMap w b n xs) (hb : Below w.heap.size w w') : CMap w' b n xs := h.kept (Below.grownBy hb) (by simp)
theorem CMap.mono {w : World} {b n n' : Nat} {xs : List Pg} (h : CMap w b n xs) (hn : n ≤ n') : CMap w b n' xs := by
  obtain ⟨D, hown, h1, h2⟩ := h; exact ⟨D, hown.mono hn, h1, h2⟩

theorem anyC_of {xs : List Pg} {y : Pg} (hy : y ∈ xs) : xs.any (fun z => z.id == y.id) = true := List.any_eq_true.2 ⟨y, hy, by simp⟩
theorem CMap.look {w : World} {b n : Nat} {xs : List Pg} (h : CMap w b n xs) {y : Pg} (hy : y ∈ xs) (hk : W64 y.id) :
    (Instr.lookup 56 (.map (some b)) (.int .i64 y.id) true).run Try.prog w = .ok (.tuple #[.slice (some ⟨y.g, 0, none⟩) 256 y.c, .bool true]) w := by
  obtain ⟨D, hown, h1, h2⟩ := h
  have hkey := keyOf_int_mk Try.underlying3 hk.wf
  obtain ⟨v', ps', hrun', hv'⟩ := hown.look_ok keyed3 Try.underlying56 (zeroC w) (zd := .lit (.bool false)) (zp := []) rfl hkey
  rw [h2 y hy] at hv'
  rw [pageR_inv hv', h1, anyC_of hy] at hrun'
  exact hrun'
theorem CMap.lookNo {w : World} {b n : Nat} {xs : List Pg} (h : CMap w b n xs) {k : Int} (hn : xs.any (fun y => y.id == k) = false) (hk : W64 k) :
    (Instr.lookup 56 (.map (some b)) (.int .i64 k) true).run Try.prog w = .ok (.tuple #[.slice none 0 0, .bool false]) w := by
  obtain ⟨D, hown, h1, h2⟩ := h
  have hkey := keyOf_int_mk Try.underlying3 hk.wf
  obtain ⟨v', ps', hrun', hv'⟩ := hown.look_ok keyed3 Try.underlying56 (zeroC w) (zd := .lit (.bool false)) (zp := []) rfl hkey
  rw [Maps.atKey_of_not_has (by rw [h1, hn])] at hv'
  rw [pageR_nil hv', h1, hn] at hrun'
  exact hrun'

/-- One more, in its place. -/
def insC (xs : List Pg) (d : Pg) : List Pg := xs.takeWhile (fun y => decide (y.id < d.id)) ++ d :: xs.dropWhile (fun y => decide (y.id < d.id))
theorem mem_insC {xs : List Pg} {d y : Pg} : y ∈ insC xs d ↔ y = d ∨ y ∈ xs := by
  unfold insC
  have := List.takeWhile_append_dropWhile (p := fun y : Pg => decide (y.id < d.id)) (l := xs)
  constructor
  · intro h
    rw [List.mem_append, List.mem_cons] at h
    rcases h with h | rfl | h
    · right; rw [← this]; exact List.mem_append_left _ h
    · exact .inl rfl
    · right; rw [← this]; exact List.mem_append_right _ h
  · rintro (rfl | h)
    · simp
    · rw [← this, List.mem_append] at h
      rw [List.mem_append, List.mem_cons]
      rcases h with h | h
      · exact .inl h
      · exact .inr (.inr h)
theorem anyC_insC (xs : List Pg) (d : Pg) (f : Pg → Bool) : (insC xs d).any f = (f d || xs.any f) := by
  rw [Bool.eq_iff_iff, List.any_eq_true, Bool.or_eq_true, List.any_eq_true]
  constructor
  · rintro ⟨y, hy, hf⟩
    rcases mem_insC.1 hy with rfl | h
    · exact .inl hf
    · exact .inr ⟨y, h, hf⟩
  · rintro (h | ⟨y, hy, hf⟩)
    · exact ⟨d, mem_insC.2 (.inl rfl), h⟩
    · exact ⟨y, mem_insC.2 (.inr hy), hf⟩
theorem rising_insC {xs : List Pg} (hr : RisingC xs) {d : Pg} (hn : xs.any (fun y => y.id == d.id) = false) : RisingC (insC xs d) := by
  rw [List.any_eq_false] at hn
  unfold RisingC at *
  induction xs with
  | nil => simp [insC]
  | cons x t ih =>
    rw [List.pairwise_cons] at hr
    have ht := ih hr.2 (fun y hy => hn y (by simp [hy]))
    have hx := hn x (by simp)
    by_cases hlt : x.id < d.id
    · have e : insC (x :: t) d = x :: insC t d := by unfold insC; simp [hlt]
      rw [e, List.pairwise_cons]
      refine ⟨fun y hy => ?_, ht⟩
      rcases mem_insC.1 hy with rfl | h
      · exact hlt
      · exact hr.1 y h
    · have e : insC (x :: t) d = d :: x :: t := by unfold insC; simp [hlt]
      have hd : d.id < x.id := by
        simp only [beq_iff_eq] at hx
        omega
      rw [e, List.pairwise_cons, List.pairwise_cons]
      refine ⟨fun y hy => ?_, hr.1, hr.2⟩
      rcases List.mem_cons.1 hy with rfl | h
      · exact hd
      · have := hr.1 y h; omega

theorem CMap.putD {D : DataW Unit} {xs : List Pg} {d : Pg} (hw : W64 d.id) (hm : IsMap D) (hn : xs.any (fun y => y.id == d.id) = false) (h1 : ∀ k, Maps.has D (.int .i64 k) = xs.any (fun y => y.id == k)) (h2 : ∀ y ∈ xs, ∀ z, D.atKey (.int .i64 y.id) z = pageD y.g y.c) :
    (∀ k, Maps.has (D.put (.int .i64 d.id) (pageD d.g d.c)) (.int .i64 k) = (insC xs d).any (fun y => y.id == k)) ∧ ∀ y ∈ insC xs d, ∀ z, (D.put (.int .i64 d.id) (pageD d.g d.c)).atKey (.int .i64 y.id) z = pageD y.g y.c := by
  have hkl : WideAt.IsKeyLit (.int .i64 d.id) := trivial
  refine ⟨fun k => ?_, fun y hy z => ?_⟩
  · rw [anyC_insC]
    by_cases hk : k = d.id
    · subst hk; rw [Maps.has_put_same hm hkl]; simp
    · have : (d.id == k) = false := by rw [beq_eq_false_iff_ne]; exact fun e => hk e.symm
      rw [Maps.has_put_other (fun e => hk (by simpa using e)), h1, this]; rfl
  · rcases mem_insC.1 hy with rfl | h
    · rw [Maps.atKey_put_same hm hkl]
    · have hne : y.id ≠ d.id := by
        rw [List.any_eq_false] at hn
        intro e; exact hn y h (by simp [e])
      rw [Maps.atKey_put_other (fun e => hne (by simpa using e))]
      exact h2 y h z

/-- One less. -/
def delC (xs : List Pg) (k : Int) : List Pg := xs.filter (fun y => !(y.id == k))
theorem CMap.delD {D : DataW Unit} {xs : List Pg} {k : Int} (h1 : ∀ k, Maps.has D (.int .i64 k) = xs.any (fun y => y.id == k)) (h2 : ∀ y ∈ xs, ∀ z, D.atKey (.int .i64 y.id) z = pageD y.g y.c) :
    (∀ j, Maps.has (D.del (.int .i64 k)) (.int .i64 j) = (delC xs k).any (fun y => y.id == j)) ∧ ∀ y ∈ delC xs k, ∀ z, (D.del (.int .i64 k)).atKey (.int .i64 y.id) z = pageD y.g y.c := by
  unfold delC
  refine ⟨fun j => ?_, fun y hy z => ?_⟩
  · by_cases hk : j = k
    · subst hk
      rw [Maps.has_del_same, eq_comm, List.any_eq_false]
      intro y hy
      have := (List.mem_filter.1 hy).2
      simpa using this
    · rw [Maps.has_del_other (fun e => hk (by simpa using e)), h1, Bool.eq_iff_iff, List.any_eq_true, List.any_eq_true]
      constructor
      · rintro ⟨y, hy, hf⟩
        have : y.id = j := by simpa using hf
        exact ⟨y, List.mem_filter.2 ⟨hy, by simp [this, hk]⟩, hf⟩
      · rintro ⟨y, hy, hf⟩
        exact ⟨y, (List.mem_filter.1 hy).1, hf⟩
  · obtain ⟨hy1, hy2⟩ := List.mem_filter.1 hy
    have hne : y.id ≠ k := by simpa using hy2
    rw [Maps.atKey_del_other (fun e => hne (by simpa using e))]
    exact h2 y hy1 z

/-- The keys, sorted. -/
theorem CMap.keys {w : World} {b n : Nat} {D : DataW Unit} {xs : List Pg} (hown : w.ownsMap Try.prog 3 pageR b n D) (h1 : ∀ k, Maps.has D (.int .i64 k) = xs.any (fun y => y.id == k)) (hr : RisingC xs) {ss : List Int} (hp : ss.Perm (intKeys D)) : ss.mergeSort leI = xs.map Pg.id := by
  have hc : CollectedI D (fun _ => false) (xs.map Pg.id) := by
    refine ⟨?_, fun x => ?_⟩
    · rw [List.nodup_iff_pairwise_ne, List.pairwise_map]
      exact hr.imp (fun h => by omega)
    · rw [h1, List.mem_map, List.any_eq_true]
      constructor
      · rintro ⟨y, hy, rfl⟩; exact ⟨⟨y, hy, by simp⟩, rfl⟩
      · rintro ⟨⟨y, hy, e⟩, _⟩; exact ⟨y, hy, by simpa using e⟩
  have hp2 := hc.perm hown keyed3 Try.underlying3 (fun _ => rfl)
  rw [mergeSort_of_perm_i (hp.trans hp2.symm)]
  refine List.mergeSort_of_pairwise ?_
  rw [List.pairwise_map]
  exact hr.imp (fun h => by simp only [leI, decide_eq_true_eq]; omega)

theorem CMap.perm {w : World} {b n : Nat} {D : DataW Unit} {xs : List Pg} (hown : w.ownsMap Try.prog 3 pageR b n D) (h1 : ∀ k, Maps.has D (.int .i64 k) = xs.any (fun y => y.id == k)) (hr : RisingC xs) : (xs.map Pg.id).Perm (intKeys D) := by
  have hc : CollectedI D (fun _ => false) (xs.map Pg.id) := by
    refine ⟨?_, fun x => ?_⟩
    · rw [List.nodup_iff_pairwise_ne, List.pairwise_map]
      exact hr.imp (fun h => by omega)
    · rw [h1, List.mem_map, List.any_eq_true]
      constructor
      · rintro ⟨y, hy, rfl⟩; exact ⟨⟨y, hy, by simp⟩, rfl⟩
      · rintro ⟨⟨y, hy, e⟩, _⟩; exact ⟨y, hy, by simpa using e⟩
  exact hc.perm hown keyed3 Try.underlying3 (fun _ => rfl)
theorem CMap.len {w : World} {b n : Nat} {xs : List Pg} (h : CMap w b n xs) (hr : RisingC xs) (ty : TypeId) : (Builtin.len_ #[56] ty #[.map (some b)]).run Try.prog w = .ok (.int .i64 (xs.length : Int)) w := by
  obtain ⟨D, hown, h1, h2⟩ := h
  have hp := (CMap.perm hown h1 hr).length_eq
  rw [List.length_map] at hp
  have hs : Maps.size D = (intKeys D).length := by
    obtain ⟨es, rfl⟩ := hown.isMap
    simp [intKeys, Maps.size]
  rw [hown.len Try.underlying56 ty, hs, ← hp]
theorem insC_last {xs : List Pg} {d : Pg} (h : ∀ y ∈ xs, y.id < d.id) : insC xs d = xs ++ [d] := by
  induction xs with
  | nil => rfl
  | cons x l ih =>
    have hx := h x (by simp)
    have e : insC (x :: l) d = x :: insC l d := by unfold insC; simp [hx]
    rw [e, ih (fun y hy => h y (by simp [hy]))]; rfl
end Go.Proofs.Ytcleabnbdfhmnaa
