/- A map's keys, collected and sorted: the library's contracts at this program; sorted paths, plainly. -/
import Derived.Test.YtdnmacehfbjiiaaFirst
import Derived.Test.YtdnmacehfbjiiaaKind
namespace Go.Proofs.Ytdnmacehfbjiiaa
open Go.RowKit Go.Maps Go.Sort Go.Shelf

theorem keys_call (mb : Option Nat) (W : World) : Calls Try.prog 18 #[.map mb] W fun e w' => e = .returned (.func (.func 23) #[] #[.pointer (some ⟨W.heap.size, 0, none⟩)]) ∧ w' = W.alloc (.cells #[.map mb] 45) :=
  (callsIn_wide (n := 5)).1 (AnyZ.keys_in Try.keysL Fence.wide 5 trivial rfl mb W)
theorem collect_call {R : Value → Option (DataW Unit × List MemPlace)} (b nn : Nat) (D0 : DataW Unit) (w : World) (hown : w.ownsMap Try.prog 9 R b nn D0) (hmax : Maps.size D0 ≤ maxLen) (hbytes : Maps.size D0 * 16 ≤ 140737488355328) :
    Calls Try.prog 17 #[.func (.func 23) #[] #[.pointer (some ⟨w.heap.size, 0, none⟩)]] (w.alloc (.cells #[.map (some b)] 45)) fun e w' => ∃ (v : Value) (ss : List Str), e = .returned v ∧ ss.Perm (strKeys D0) ∧
      w'.ownsRow (w.alloc (.cells #[.map (some b)] 45)).heap.size 9 1 v ss.length (ss.map encStr) ∧ Below (w.alloc (.cells #[.map (some b)] 45)).heap.size (w.alloc (.cells #[.map (some b)] 45)) w' := by
  have hbl := hown.lt
  have hseq : SeqGives Fence.wide (5 - 1 - 1) Try.prog 23 #[.pointer (some ⟨w.heap.size, 0, none⟩)] encStr (fun ss => ss.Perm (strKeys D0)) (Maps.size D0) (w.alloc (.cells #[.map (some b)] 45)) :=
    AnyZ.keys_gives (ρ := Try.keysL_ren) { Try.keysL with } Fence.wide _ trivial rfl (by omega) w.heap.size b nn D0 _ (by simp) (by simp) (by
      obtain ⟨es, clock, hb, Ft, hs, hD⟩ := hown
      exact ⟨es, clock, (Below.heap_alloc _ _ b hbl).trans hb, Ft, hs, hD⟩)
  have cS := AnyZ.collect_in Try.collect Fence.wide 5 trivial trivial rfl (by omega) 23 #[.pointer (some ⟨w.heap.size, 0, none⟩)] trivial (enters_of Try.func23 (by kernel_rfl) rfl) _ _ hmax hbytes _ hseq
  change CallsIn _ _ Try.prog 17 _ _ _ at cS
  refine ((callsIn_wide (n := 5)).1 cS).mono ?_
  rintro e w' ⟨v, ss, rfl, hS, hrow, _, hb⟩
  exact ⟨v, ss, rfl, hS, hrow, hb⟩
theorem strKeys_ok {R : Value → Option (DataW Unit × List MemPlace)} {b nn : Nat} {D0 : DataW Unit} {w : World} (hown : w.ownsMap Try.prog 9 R b nn D0) : (strKeys D0).Nodup ∧ ∀ x, x ∈ strKeys D0 ↔ Maps.has D0 (.string x) = true := by
  obtain ⟨es, hD, hp, _⟩ := hown.entries keyed9
  obtain ⟨es', hD', hko⟩ := hown.keysOf
  obtain rfl : es = es' := by rw [hD] at hD'; simpa using hD'
  subst hD
  have hk : ∀ p ∈ es, ∃ x, p.1 = .string x := fun p hp => by obtain ⟨v, hv⟩ := hko p hp; obtain ⟨x, _, hx, _⟩ := Maps.keyOf_str Try.underlying9 hv; exact ⟨x, hx⟩
  refine ⟨?_, fun x => ?_⟩
  · show (es.map fun p => strOf p.1).Nodup
    refine List.pairwise_map.2 (hp.imp_of_mem fun {p q} hp' hq' hne e => hne ?_)
    obtain ⟨a, ha⟩ := hk p hp'
    obtain ⟨b, hb⟩ := hk q hq'
    rw [ha, hb] at e ⊢
    exact congrArg _ e
  · rw [Maps.has_eq, List.any_eq_true]
    show x ∈ (es.map fun p => strOf p.1) ↔ _
    rw [List.mem_map]
    constructor
    · rintro ⟨p, hp', rfl⟩
      obtain ⟨a, ha⟩ := hk p hp'
      exact ⟨p, hp', by rw [ha]; simp [Lit.sameKey, strOf]⟩
    · rintro ⟨p, hp', hs⟩
      obtain ⟨a, ha⟩ := hk p hp'
      rw [ha] at hs
      exact ⟨p, hp', by rw [ha]; simpa [Lit.sameKey, strOf] using hs.symm⟩
theorem sort_call {w : World} {base : Nat} {v : Value} {ss : List Str} (h : w.ownsRow base 9 1 v ss.length (ss.map encStr)) (hs : ss.length ≤ 1000000) :
    Calls Try.prog 19 #[v] w fun e w' => e = .returned (.tuple #[]) ∧ w'.ownsRow base 9 1 v ss.length ((ss.mergeSort leB).map encStr) ∧ w.grownBy w' v.ownBlock := by
  rcases h.2 with ⟨rfl, hz⟩ | ⟨gb, cap, cur, rfl, hbase, hgb, r1, r2, r3, r4⟩
  · have hss : ss = [] := List.eq_nil_of_length_eq_zero hz
    subst hss
    refine (AnyM.slices_Sort_string_none Try.sort none 0 w).mono ?_
    rintro e w' ⟨rfl, rfl⟩
    exact ⟨rfl, by simpa using h, ⟨rfl, rfl, rfl, Nat.le_refl _, fun _ _ _ => rfl⟩⟩
  · have hH : Holds encStr w gb 0 ss.toArray := holds_of_block hgb (by simpa using r4)
    have hgl : gb < w.heap.size := (Array.getElem?_eq_some_iff.1 hgb).1
    refine (AnyM.slices_Sort_string Try.sort gb 0 cap ss w hH hgl (by omega)).mono ?_
    rintro e w' ⟨rfl, nn, os, rfl⟩
    exact ⟨rfl, ownsRow_sorted (by simp) hbase hgb r1 r2 r3, grownBy_sorted _⟩

/-- The paths of these, in order. -/
def PathsOf (fa fb : Str → Option It) (ps : List Str) : Prop := ps.Pairwise (fun a b => leB a b = true) ∧ ps.Nodup ∧ ∀ k, k ∈ ps ↔ ((fa k).isSome = true ∨ (fb k).isSome = true)
theorem PathsOf.uniq {fa fb : Str → Option It} {ps qs : List Str} (h : PathsOf fa fb ps) (h2 : PathsOf fa fb qs) : ps = qs := by
  refine List.Perm.eq_of_pairwise (le := fun a b => leB a b = true) (fun a b _ _ h1 h2 => ?_) h.1 h2.1 ((List.perm_ext_iff_of_nodup h.2.1 h2.2.1).2 fun k => by rw [h.2.2, h2.2.2])
  simp only [leB, decide_eq_true_eq] at h1 h2
  exact List.le_antisymm h1 h2
theorem PathsOf.comm {fa fb : Str → Option It} {ps : List Str} (h : PathsOf fa fb ps) : PathsOf fb fa ps := ⟨h.1, h.2.1, fun k => by rw [h.2.2, Or.comm]⟩
theorem pathsOf_sort {fa fb : Str → Option It} {ss : List Str} (hn : ss.Nodup) (hm : ∀ k, k ∈ ss ↔ ((fa k).isSome = true ∨ (fb k).isSome = true)) : PathsOf fa fb (ss.mergeSort leB) := by
  have tr : ∀ a b c : Str, leB a b = true → leB b c = true → leB a c = true := fun a b c h1 h2 => by simp only [leB, decide_eq_true_eq] at *; exact List.le_trans h1 h2
  have tot : ∀ a b : Str, (leB a b || leB b a) = true := fun a b => by simp only [leB, Bool.or_eq_true, decide_eq_true_eq]; exact List.le_total a b
  have hp := List.mergeSort_perm ss leB
  exact ⟨List.pairwise_mergeSort tr tot ss, hp.nodup_iff.2 hn, fun k => by rw [hp.mem_iff, hm]⟩
end Go.Proofs.Ytdnmacehfbjiiaa
