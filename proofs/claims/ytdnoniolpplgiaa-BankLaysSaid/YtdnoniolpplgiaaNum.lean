/- Maps of numbers, read as functions; their keys, rising. -/
import Derived.Test.YtdnoniolpplgiaaChecked
import Derived.Test.YtdnoniolpplgiaaRows
import Derived.Test.YtdnoniolpplgiaaLays
import Derived.WalkKit
import Derived.ProofKit
import Derived.Below
import Derived.Lib.Hide
import Derived.Deep.DeepCutAuto
import Derived.Laws.OwnMore
import Derived.Deep.RegionHeld3
import Derived.Maps.OwnSet
import Derived.Maps.OwnOps
import Derived.Maps.Range
import Derived.BigQuiet
import Derived.Defers
import Derived.Recover
import Derived.Laws.Pointers
namespace Go.Proofs.Ytdnoniolpplgiaa
open Go.RowKit Go.Maps Go.Sort Go.Shelf

def W64 (n : Int) : Prop := -9223372036854775808 ≤ n ∧ n < 9223372036854775808
theorem W64.wf {n : Int} (h : W64 n) : (Lit.int .i64 n).wf = true := by
  unfold W64 at h
  simp [Lit.wf, IntKind.min, IntKind.max, IntKind.signed, IntKind.bits]; omega
theorem keyed3 : Keyed Try.prog 3 := int_keyed Try.underlying3
theorem Below.grownBy {w w' : World} (h : Below w.heap.size w w') : w.grownBy w' none := ⟨h.os, h.tape, h.output, h.size, fun k hk _ => h.block k hk⟩

/-- The sort's two contracts at this program. -/
theorem sorts (m : Nat) : AnyZI.SortsIn Try.prog Try.sorted_ren Fence.wide m :=
  ⟨fun blk off cap ss W hH hblk hsz => callsIn_wide.2 (AnyM.slices_Sort_int Try.sort blk off cap ss W hH hblk hsz),
   fun p cap W => callsIn_wide.2 (AnyM.slices_Sort_int_none Try.sort p cap W)⟩

theorem keys_call (mb : Option Nat) (W : World) : Calls Try.prog 54 #[.map mb] W fun e w' => e = .returned (.func (.func 83) #[] #[.pointer (some ⟨W.heap.size, 0, none⟩)]) ∧ w' = W.alloc (.cells #[.map mb] 79) :=
  (callsIn_wide (n := 5)).1 (AnyZI.keys_in Try.keysC Fence.wide 5 trivial rfl mb W)

theorem sorted_call {R : Value → Option (DataW Unit × List MemPlace)} (b nn : Nat) (D0 : DataW Unit) (w : World) (hown : w.ownsMap Try.prog 3 R b nn D0) (hmax : Maps.size D0 ≤ maxLen) (hbytes : Maps.size D0 * 8 ≤ 140737488355328) :
    Calls Try.prog 53 #[.func (.func 83) #[] #[.pointer (some ⟨w.heap.size, 0, none⟩)]] (w.alloc (.cells #[.map (some b)] 79)) fun e w' => ∃ (v : Value) (ss : List Int), e = .returned v ∧ ss.Perm (intKeys D0) ∧
      w'.ownsRow (w.alloc (.cells #[.map (some b)] 79)).heap.size 3 1 v ss.length ((ss.mergeSort leI).map encZ) ∧ (v = .slice none 0 0 ↔ ss = []) ∧ Below (w.alloc (.cells #[.map (some b)] 79)).heap.size (w.alloc (.cells #[.map (some b)] 79)) w' := by
  have hbl := hown.lt
  have hseq : SeqGives Fence.wide 2 Try.prog 83 #[.pointer (some ⟨w.heap.size, 0, none⟩)] encZ (fun ss => ss.Perm (intKeys D0)) (Maps.size D0) (w.alloc (.cells #[.map (some b)] 79)) :=
    AnyZI.keys_gives (ρ := Try.keysC_ren) { Try.keysC with } Fence.wide _ trivial rfl (by omega) w.heap.size b nn D0 _ (by simp) (by simp) (by
      obtain ⟨es, clock, hb, Ft, hs, hD⟩ := hown
      exact ⟨es, clock, (Below.heap_alloc _ _ b hbl).trans hb, Ft, hs, hD⟩)
  have cS := AnyZI.sorted_in Try.sorted Fence.wide 5 trivial trivial trivial trivial rfl (by omega) (sorts _) (enters_of Try.func82 (by kernel_rfl) rfl) 83 #[.pointer (some ⟨w.heap.size, 0, none⟩)] trivial (enters_of Try.func83 (by kernel_rfl) rfl) _ _ hmax hbytes _ hseq
  change CallsIn _ _ Try.prog 53 _ _ _ at cS
  refine ((callsIn_wide (n := 5)).1 cS).mono ?_
  rintro e w' ⟨v, ss, rfl, hS, hrow, hnil, hb⟩
  exact ⟨v, ss, rfl, hS, hrow, hnil, hb⟩

/-- Rising lists. -/
def Ris (xs : List Int) : Prop := xs.Pairwise (· < ·)
theorem ris_ext : ∀ {a b : List Int}, Ris a → Ris b → (∀ k, k ∈ a ↔ k ∈ b) → a = b := by
  intro a
  induction a with
  | nil =>
    intro b _ _ h
    cases b with
    | nil => rfl
    | cons y t => have := (h y).2 (by simp); cases this
  | cons x s ih =>
    intro b ha hb h
    cases b with
    | nil => have := (h x).1 (by simp); cases this
    | cons y t =>
      unfold Ris at ha hb
      rw [List.pairwise_cons] at ha hb
      have hxy : x = y := by
        rcases List.mem_cons.1 ((h x).1 (by simp)) with e | e
        · exact e
        · rcases List.mem_cons.1 ((h y).2 (by simp)) with e2 | e2
          · exact e2.symm
          · have := hb.1 x e; have := ha.1 y e2; omega
      subst hxy
      rw [ih ha.2 hb.2 (fun k => ⟨fun hk => by
        rcases List.mem_cons.1 ((h k).1 (List.mem_cons_of_mem _ hk)) with e | e
        · have := ha.1 k hk; omega
        · exact e, fun hk => by
        rcases List.mem_cons.1 ((h k).2 (List.mem_cons_of_mem _ hk)) with e | e
        · have := hb.1 k hk; omega
        · exact e⟩)]
theorem ris_ins : ∀ {ks : List Int}, Ris ks → ∀ a, ∃ ks', Ris ks' ∧ ∀ k, k ∈ ks' ↔ k = a ∨ k ∈ ks := by
  intro ks
  induction ks with
  | nil => intro _ a; exact ⟨[a], List.pairwise_singleton _ _, fun k => by simp⟩
  | cons x t ih =>
    intro h a
    have h' := h
    unfold Ris at h
    rw [List.pairwise_cons] at h
    rcases Int.lt_trichotomy a x with hl | rfl | hg
    · refine ⟨a :: x :: t, ?_, fun k => by simp⟩
      unfold Ris
      rw [List.pairwise_cons]
      refine ⟨fun y hy => ?_, h'⟩
      rcases List.mem_cons.1 hy with rfl | hy
      · exact hl
      · have := h.1 y hy; omega
    · exact ⟨a :: t, h', fun k => by simp⟩
    · obtain ⟨ks', h1, h2⟩ := ih h.2 a
      refine ⟨x :: ks', ?_, fun k => ?_⟩
      · unfold Ris
        rw [List.pairwise_cons]
        refine ⟨fun y hy => ?_, h1⟩
        rcases (h2 y).1 hy with rfl | hy
        · exact hg
        · exact h.1 y hy
      · rw [List.mem_cons, List.mem_cons, h2]
        constructor
        · rintro (h | h | h)
          · exact .inr (.inl h)
          · exact .inl h
          · exact .inr (.inr h)
        · rintro (h | h | h)
          · exact .inr (.inl h)
          · exact .inl h
          · exact .inr (.inr h)
theorem ris_del {ks : List Int} (h : Ris ks) (a : Int) : Ris (ks.filter (fun k => !(k == a))) ∧ ∀ k, k ∈ ks.filter (fun k => !(k == a)) ↔ k ≠ a ∧ k ∈ ks := by
  refine ⟨List.Pairwise.filter _ h, fun k => ?_⟩
  rw [List.mem_filter]
  constructor
  · rintro ⟨h1, h2⟩; exact ⟨by simpa using h2, h1⟩
  · rintro ⟨h1, h2⟩; exact ⟨h2, by simpa using h1⟩
/-- No more of them than of those that they are among. -/
theorem ris_len : ∀ (T : List Int) {ks : List Int}, Ris ks → (∀ k, k ∈ ks → k ∈ T) → ks.length ≤ T.length := by
  intro T
  induction T with
  | nil =>
    intro ks _ h
    cases ks with
    | nil => simp
    | cons x t => have := h x (by simp); cases this
  | cons a T ih =>
    intro ks hr h
    obtain ⟨h1, h2⟩ := ris_del hr a
    have h3 := ih h1 (fun k hk => by
      obtain ⟨e1, e2⟩ := (h2 k).1 hk
      rcases List.mem_cons.1 (h k e2) with e | e
      · exact absurd e e1
      · exact e)
    have h4 : ks.length ≤ (ks.filter (fun k => !(k == a))).length + 1 := by
      clear ih h h1 h2 h3
      induction ks with
      | nil => simp
      | cons x t ih2 =>
        unfold Ris at hr
        rw [List.pairwise_cons] at hr
        by_cases e : x = a
        · subst e
          have : (x :: t).filter (fun k => !(k == x)) = t := by
            rw [List.filter_cons, if_neg (by simp), List.filter_eq_self]
            intro y hy
            have := hr.1 y hy
            simp; omega
          rw [this]; simp
        · rw [List.filter_cons, if_pos (by simp [e])]
          have := ih2 hr.2
          simp only [List.length_cons]
          omega
    simp only [List.length_cons]
    omega

def numR : Value → Option (DataW Unit × List MemPlace)
  | .int .u64 a => some (.lit (.int .u64 a), [])
  | _ => none
theorem numR_inv {v : Value} {a : Int} {ps : List MemPlace} (h : numR v = some (.lit (.int .u64 a), ps)) : v = .int .u64 a := by
  unfold numR at h
  split at h
  · simp only [Option.some.injEq, Prod.mk.injEq, DataW.lit.injEq, Lit.int.injEq, true_and] at h
    obtain ⟨rfl, _⟩ := h; rfl
  · cases h
theorem zeroN (w : World) : (zeroValue 28).run Try.prog w = .ok (.int .u64 0) w := by kernel_rfl

/-- The map at b reads as this function. -/
def MapF (w : World) (b : Nat) (f : Int → Option Int) : Prop :=
  ∃ D ks, w.ownsMap Try.prog 3 numR b (Maps.size D) D ∧ Ris ks ∧ (∀ k, k ∈ ks ↔ (f k).isSome = true) ∧ (∀ k, Maps.has D (.int .i64 k) = (f k).isSome) ∧ ∀ k v z, f k = some v → D.atKey (.int .i64 k) z = .lit (.int .u64 v)

theorem MapF.lt {w : World} {b : Nat} {f : Int → Option Int} (h : MapF w b f) : b < w.heap.size := by
  obtain ⟨D, ks, hown, _⟩ := h; exact hown.lt
theorem MapF.kept {w w' : World} {b : Nat} {f : Int → Option Int} {row : Option Nat} (h : MapF w b f) (hg : w.grownBy w' row) (hne : some b ≠ row) : MapF w' b f := by
  obtain ⟨D, ks, hown, h1⟩ := h; exact ⟨D, ks, hown.kept hg hne, h1⟩
theorem MapF.block {w w' : World} {b : Nat} {f : Int → Option Int} (h : MapF w b f) (hb : w'.heap[b]? = w.heap[b]?) : MapF w' b f := by
  obtain ⟨D, ks, ⟨es, clock, he, F, hs, hD⟩, h1⟩ := h
  exact ⟨D, ks, ⟨es, clock, hb.trans he, F, hs, hD⟩, h1⟩
theorem MapF.below {w w' : World} {b : Nat} {f : Int → Option Int} (h : MapF w b f) (hb : Below w.heap.size w w') : MapF w' b f := h.kept (Below.grownBy hb) (by simp)

theorem tight {w : World} {b n : Nat} {D : DataW Unit} {R : Value → Option (DataW Unit × List MemPlace)} (h : w.ownsMap Try.prog 3 R b n D) : w.ownsMap Try.prog 3 R b (Maps.size D) D := by
  obtain ⟨es, clock, he, F, hs, rfl⟩ := h
  refine ⟨es, clock, he, F, ?_, rfl⟩
  have e1 : es.size = ((es.toList.map (WideElems.rg Try.prog 3 R)).foldr DataW.insert []).length := by rw [length_sorted]; simp
  rw [e1]
  exact Nat.le_refl _

theorem keys_perm {w : World} {b n : Nat} {D : DataW Unit} {R : Value → Option (DataW Unit × List MemPlace)} {ks : List Int} (hown : w.ownsMap Try.prog 3 R b n D) (hr : Ris ks) (hm : ∀ k, k ∈ ks ↔ Maps.has D (.int .i64 k) = true) : ks.Perm (intKeys D) := by
  have hc : CollectedI D (fun _ => false) ks := by
    refine ⟨?_, fun x => ?_⟩
    · rw [List.nodup_iff_pairwise_ne]
      exact hr.imp (fun h => by omega)
    · rw [hm]; simp
  exact hc.perm hown keyed3 Try.underlying3 (fun _ => rfl)
theorem keys_size {w : World} {b n : Nat} {D : DataW Unit} {R : Value → Option (DataW Unit × List MemPlace)} {ks : List Int} (hown : w.ownsMap Try.prog 3 R b n D) (hr : Ris ks) (hm : ∀ k, k ∈ ks ↔ Maps.has D (.int .i64 k) = true) : Maps.size D = ks.length := by
  have hp := (keys_perm hown hr hm).length_eq
  obtain ⟨es, rfl⟩ := hown.isMap
  rw [hp]
  simp [intKeys, Maps.size]

/-- No more keys than these. -/
def Among (T : List Int) (f : Int → Option Int) : Prop := ∀ k, (f k).isSome = true → k ∈ T

theorem MapF.size {w : World} {b : Nat} {f : Int → Option Int} (h : MapF w b f) {T : List Int} (hT : Among T f) : ∃ D ks, w.ownsMap Try.prog 3 numR b (Maps.size D) D ∧ Ris ks ∧ (∀ k, k ∈ ks ↔ (f k).isSome = true) ∧ (∀ k, Maps.has D (.int .i64 k) = (f k).isSome) ∧ (∀ k v z, f k = some v → D.atKey (.int .i64 k) z = .lit (.int .u64 v)) ∧ Maps.size D = ks.length ∧ ks.length ≤ T.length := by
  obtain ⟨D, ks, h1, h2, h3, h4, h5⟩ := h
  exact ⟨D, ks, h1, h2, h3, h4, h5, keys_size h1 h2 (fun k => by rw [h3, h4]), ris_len T h2 (fun k hk => hT k ((h3 k).1 hk))⟩

theorem MapF.look {w : World} {b : Nat} {f : Int → Option Int} (h : MapF w b f) {k : Int} (hk : W64 k) :
    (Instr.lookup 79 (.map (some b)) (.int .i64 k) false).run Try.prog w = .ok (.int .u64 ((f k).getD 0)) w ∧
    (Instr.lookup 79 (.map (some b)) (.int .i64 k) true).run Try.prog w = .ok (.tuple #[.int .u64 ((f k).getD 0), .bool (f k).isSome]) w := by
  obtain ⟨D, ks, hown, _, _, h1, h2⟩ := h
  have hkey := keyOf_int_mk Try.underlying3 hk.wf
  have hat : D.atKey (.int .i64 k) (.lit (.int .u64 0)) = .lit (.int .u64 ((f k).getD 0)) := by
    cases hf : f k with
    | none => rw [Maps.atKey_of_not_has (by rw [h1, hf]; rfl)]; rfl
    | some v => rw [h2 k v _ hf]; rfl
  obtain ⟨v, ps, hrun, hv⟩ := hown.lookup keyed3 Try.underlying79 (zeroN w) (show numR (.int .u64 0) = some (.lit (.int .u64 0), []) from rfl) hkey
  obtain ⟨v', ps', hrun', hv'⟩ := hown.look_ok keyed3 Try.underlying79 (zeroN w) (show numR (.int .u64 0) = some (.lit (.int .u64 0), []) from rfl) hkey
  rw [hat] at hv hv'
  rw [numR_inv hv] at hrun
  rw [numR_inv hv', h1] at hrun'
  exact ⟨hrun, hrun'⟩

def setF (f : Int → Option Int) (a v : Int) : Int → Option Int := fun k => if k = a then some v else f k
def delF (f : Int → Option Int) (a : Int) : Int → Option Int := fun k => if k = a then none else f k

theorem run_putF {w : World} {b : Nat} {f : Int → Option Int} (h : MapF w b f) {T : List Int} (hT : Among T f) (hn : T.length < 100000) {k : Int} (hk : W64 k) (v : Int) :
    ∃ w', (Instr.mapUpdate 79 (.map (some b)) (.int .i64 k) (.int .u64 v)).run Try.prog w = .ok () w' ∧ MapF w' b (setF f k v) ∧ w.mapTurned w' b := by
  obtain ⟨D, ks, hown, hr, hm, h1, h2, hs, hl⟩ := h.size hT
  have hkl : WideAt.IsKeyLit (.int .i64 k) := trivial
  obtain ⟨w', hrun, r1, r2⟩ := hown.store keyed3 Try.underlying79 (by unfold maxLen; omega) (keyOf_int_mk Try.underlying3 hk.wf) (show numR (.int .u64 v) = some (.lit (.int .u64 v), []) from rfl)
  obtain ⟨ks', hr', hm'⟩ := ris_ins hr k
  refine ⟨w', hrun, ⟨_, ks', tight r1, hr', fun j => ?_, fun j => ?_, fun j x z hx => ?_⟩, r2⟩
  · rw [hm', hm]; unfold setF
    by_cases e : j = k <;> simp [e]
  · unfold setF
    by_cases e : j = k
    · subst e; rw [Maps.has_put_same hown.isMap hkl]; simp
    · rw [Maps.has_put_other (fun e2 => e (by simpa using e2)), h1]; simp [e]
  · unfold setF at hx
    by_cases e : j = k
    · subst e; rw [if_pos rfl] at hx; cases hx; rw [Maps.atKey_put_same hown.isMap hkl]
    · rw [if_neg e] at hx; rw [Maps.atKey_put_other (fun e2 => e (by simpa using e2))]; exact h2 j x z hx

theorem MapF.delD {w' : World} {b n : Nat} {f : Int → Option Int} {D : DataW Unit} {ks : List Int} {k : Int} (hown : w'.ownsMap Try.prog 3 numR b n (D.del (.int .i64 k))) (hr : Ris ks) (hm : ∀ k, k ∈ ks ↔ (f k).isSome = true) (h1 : ∀ k, Maps.has D (.int .i64 k) = (f k).isSome) (h2 : ∀ k v z, f k = some v → D.atKey (.int .i64 k) z = .lit (.int .u64 v)) :
    MapF w' b (delF f k) := by
  obtain ⟨hr', hm'⟩ := ris_del hr k
  refine ⟨_, _, tight hown, hr', fun j => ?_, fun j => ?_, fun j x z hx => ?_⟩
  · rw [hm', hm]; unfold delF
    by_cases e : j = k <;> simp [e]
  · unfold delF
    by_cases e : j = k
    · subst e; rw [Maps.has_del_same]; simp
    · rw [Maps.has_del_other (fun e2 => e (by simpa using e2)), h1]; simp [e]
  · unfold delF at hx
    by_cases e : j = k
    · subst e; rw [if_pos rfl] at hx; cases hx
    · rw [if_neg e] at hx; rw [Maps.atKey_del_other (fun e2 => e (by simpa using e2))]; exact h2 j x z hx

/-- A delete. -/
theorem wpList_delF {ops : Array Oper} {rest : List Oper} {o : Oper} {a : Act} {w : World} {Q : Exit → Act → World → Prop} (hg : o.guard = none) (m x : Operand)
    (hop : o.op = Op.call { callee := Callee.builtin Builtin.delete, args := #[m, x], argTypes := #[79, 3] }) (b : Nat) (f : Int → Option Int) (k : Int)
    (hm : a.eval m = .map (some b)) (hx : a.eval x = .int .i64 k) (h : MapF w b f) (hk : W64 k)
    (hK : ∀ w', MapF w' b (delF f k) → w.mapTurned w' b → wpList Try.prog ops Q rest (a.put o.dst (.tuple #[])) w') :
    wpList Try.prog ops Q (o :: rest) a w := by
  obtain ⟨D, ks, hown, hr, hmem, h1, h2⟩ := h
  refine wpList_delete_own _ hg m x 79 3 hop 28 keyed3 Try.underlying79 numR b _ D hm hown (.int .i64 k) _ hx (keyOf_int_mk Try.underlying3 hk.wf) ?_
  intro w' hown' hturn
  exact hK w' (MapF.delD hown' hr hmem h1 h2) hturn

theorem MapF.made (w : World) : MapF (w.alloc (.map #[] 0)) w.heap.size (fun _ => none) :=
  ⟨.map [], [], tight (World.ownsMap_made w _ _ _), List.Pairwise.nil, fun k => by simp, fun k => rfl, fun k v z hv => by cases hv⟩

theorem mapTurned_block {w w' : World} {b : Nat} (h : w.mapTurned w' b) : w.grownBy w' (some b) := h.grown
end Go.Proofs.Ytdnoniolpplgiaa
