/- Slices of deeds, as they are read; where one has a lock alone nobody else has one. -/
import Derived.Test.YtcleabnbdfhmnaaNil
namespace Go.Proofs.Ytcleabnbdfhmnaa
open Go.RowKit Go.Maps Go.Sort Go.Shelf

/-- A deed. -/
structure De where
  k : Int
  d : L

/-- A slice reads as these deeds. -/
def Deeds (w : World) (A : Option Addr) (n : Nat) (ds : List De) : Prop :=
  ds.length = n ∧ (ds = [] ∨ ∃ b off, A = some ⟨b, off, none⟩ ∧ b < w.heap.size ∧ ∀ i, (h : i < ds.length) → w.cell? ⟨b, off + i * 4, none⟩ = some (.int .i64 ds[i].k) ∧ w.cell? ⟨b, off + i * 4 + 1, none⟩ = some (.int .i64 ds[i].d.who) ∧ w.cell? ⟨b, off + i * 4 + 2, none⟩ = some (.int .i64 ds[i].d.ino) ∧ w.cell? ⟨b, off + i * 4 + 3, none⟩ = some (.bool ds[i].d.al))
theorem Deeds.below {w w' : World} {A : Option Addr} {n : Nat} {ds : List De} (h : Deeds w A n ds) (hb : Below w.heap.size w w') : Deeds w' A n ds := by
  refine ⟨h.1, ?_⟩
  rcases h.2 with h | ⟨b, off, rfl, hl, hc⟩
  · exact .inl h
  · exact .inr ⟨b, off, rfl, Nat.lt_of_lt_of_le hl hb.size, fun i hi => ⟨(hb.cell hl).trans (hc i hi).1, (hb.cell hl).trans (hc i hi).2.1, (hb.cell hl).trans (hc i hi).2.2.1, (hb.cell hl).trans (hc i hi).2.2.2⟩⟩
theorem Deeds.at {w : World} {A : Option Addr} {n : Nat} {ds : List De} (h : Deeds w A n ds) {i : Nat} (hi : i < n) :
    ∃ b off, A = some ⟨b, off, none⟩ ∧ b < w.heap.size ∧ ∃ x, ds[i]? = some x ∧ w.cell? ⟨b, off + i * 4, none⟩ = some (.int .i64 x.k) ∧ w.cell? ⟨b, off + i * 4 + 1, none⟩ = some (.int .i64 x.d.who) ∧ w.cell? ⟨b, off + i * 4 + 2, none⟩ = some (.int .i64 x.d.ino) ∧ w.cell? ⟨b, off + i * 4 + 3, none⟩ = some (.bool x.d.al) := by
  have hx : i < ds.length := by rw [h.1]; exact hi
  rcases h.2 with h2 | ⟨b, off, rfl, hl, hc⟩
  · subst h2; simp at hx
  · exact ⟨b, off, rfl, hl, ds[i], List.getElem?_eq_getElem hx, hc i hx⟩

/-- Where one has a lock alone nobody else has one. -/
def Lone (xs : List L) : Prop := ∀ y ∈ xs, ∀ z ∈ xs, y.ino = z.ino → y.al = true → y = z
theorem lone_del {xs : List L} (h : Lone xs) (k : Int) : Lone (delL xs k) := fun y hy z hz => h y (List.mem_filter.1 hy).1 z (List.mem_filter.1 hz).1
theorem lone_take {xs : List L} (h : Lone xs) (d : L) : Lone (takeL xs d) := by
  unfold takeL
  cases hm : mayB xs d.who d.ino d.al with
  | false => rw [if_neg (by simp)]; exact h
  | true =>
    rw [if_pos rfl]
    unfold mayB at hm
    simp only [Bool.and_eq_true, Bool.not_eq_true'] at hm
    have hno := hm.2
    rw [List.any_eq_false] at hno
    intro y hy z hz hi ha
    rcases mem_insL.1 hy with e1 | h1
    · rcases mem_insL.1 hz with e2 | h2
      · rw [e1, e2]
      · rw [e1] at hi ha
        exact absurd (by simp [hi, ha]) (hno z h2)
    · rcases mem_insL.1 hz with e2 | h2
      · rw [e2] at hi
        exact absurd (by simp [hi, ha]) (hno y h1)
      · exact h y h1 z h2 hi ha
theorem lone_few {xs : List L} (h : Lone xs) (hr : Rising xs) {y : L} (hy : y ∈ xs) (ha : y.al = true) : (usL xs y.ino).length ≤ 1 := by
  unfold usL
  rw [List.length_map]
  have hall : ∀ z ∈ xs.filter (fun z => z.ino == y.ino), z = y := by
    intro z hz
    obtain ⟨h1, h2⟩ := List.mem_filter.1 hz
    exact (h y hy z h1 (by simpa using (by simpa using h2 : z.ino = y.ino).symm) ha).symm
  have hr2 : Rising (xs.filter (fun z => z.ino == y.ino)) := List.Pairwise.filter _ hr
  generalize xs.filter (fun z => z.ino == y.ino) = l at *
  match l, hall, hr2 with
  | [], _, _ => simp
  | [a], _, _ => simp
  | a :: c :: t, hall, hr2 =>
    have h1 := hall a (by simp)
    have h2 := hall c (by simp)
    unfold Rising at hr2
    rw [List.pairwise_cons] at hr2
    have := hr2.1 c (by simp)
    rw [h1, h2] at this
    omega
end Go.Proofs.Ytcleabnbdfhmnaa
